/- Part 5 of the proof of MergeIsStuck (several texts in one; no further condition). -/
import Derived.Test.YtkfnjbfnkpameaaZD
import Derived.Test.YtkfnjbfnkpameaaProg
import Derived.KernelRfl
import GoSem.Claim
import Derived.ProofKit
import Derived.OpenShut
import Derived.ShutString
import Derived.ChangeOld
import Derived.Below
import Derived.Carry
import Derived.Deep.Slices
import Derived.SizedLaws
import Derived.JoinedCond
import Derived.WalkKit
import Derived.LoopNIn
import Derived.LoopIn
import Derived.Test.YtkfnjbfnkpameaaZC
import Derived.Laws.BitsAllLaws
import Derived.RangeFuncBox
import Derived.RangeFuncLeaves
import Derived.Shelf.Abstract
import Derived.OwnWalkIn
import Derived.TacticsInMore
import Derived.BigRegionIn
import Derived.Deep.MidRow
set_option linter.unusedSimpArgs false
set_option linter.unusedVariables false
set_option linter.unusedSectionVars false
namespace Go.Proofs.Ytkfnjbfnkpameaa
open Go.Addr renaming add_lit->n4
open _root_.And renaming intro->fh
open _root_.Array renaming getElem?_eq_getElem->ld
open _root_.BitVec renaming ofInt->jd,toNat_and->ou,toNat_ofInt->lw,toNat_ofNat->pt
open _root_.Bool renaming and_eq_true->fo,and_self->gj,eq_iff_iff->kx,true_and->kh
open _root_.Eq renaming trans->ge
open Go.Fence renaming wide->mo
open _root_.Go.RowKit renaming wrap64->qg
open _root_.Int renaming ofNat->qu
open Go renaming IntKind->i4,Operand->gg,Program->gw,TypeId->gu
open Go.IntKind renaming i64->fm
open _root_.List renaming all_cons->jt,append_assoc->gr,append_nil->ic,cons_append->gz,drop_append->mu,drop_append_of_le_length->qp,drop_drop->l6,drop_eq_getElem_cons->ky,drop_of_length_le->i7,drop_succ_cons->lc,drop_zero->gt,flatMap_cons->jg,flatten_cons->ir,getElem?_append_left->gq,getElem?_append_right->iw,getElem?_cons_zero->ij,getElem?_drop->lj,getElem?_eq_getElem->fp,getElem?_eq_some_iff->gl,getElem?_map->lr,getElem_of_mem->m5,length_append->f7,length_cons->gp,length_drop->jl,length_map->fw,length_nil->jk,length_replicate->ln,length_set->qs,length_take->iu,map_cons->ja,map_nil->pj,mem_append->ig,mem_map->jq,mem_singleton->ib,nil_append->gm,range'->q8,range'_succ->qf,replicate->gh,replicate_succ->jh,take_append->pi,take_append_drop->je,take_append_of_le_length->ke,take_of_length_le->il,take_zero->nh
open _root_.List.cons renaming injEq->o6
open _root_.Nat renaming add_mul->js,add_zero->j0,beq->gc,eq_of_beq_eq_true->fq,le_refl->fx,log2->ks,log2_self_le->qh,mod_eq_of_lt->nu,mul_one->qo,not_lt_zero->mn,one_mul->ni,pow_le_pow_right->md,reduceAdd->gb,reduceSub->i9,zero_add->jb,zero_le->iy
open Go.Op renaming equal->rc,equalIn->lf
open _root_.Option renaming bind_some->fj
open _root_.Option.some renaming injEq->fi
open _root_.Prod.mk renaming injEq->ft
open Go.Proofs.Ytkfnjbfnkpameaa.T renaming cells->jj,flatL->rq,ids->qx,idsL->kp,int->fl,one->nl
open Go.Proofs.Ytkfnjbfnkpameaa.TS renaming set_ne->nm,set_same->ng
open Go.Proofs.Ytkfnjbfnkpameaa.VR renaming ofInt->px
open Go.Value renaming bool->so,int->jn,okWide->ru
open Go.World renaming cell?->r9
set_option maxRecDepth 100000
open Go Go.RowKit
structure Ar (n:Nat) where
  l:List Int
  h:l.length=n
deriving DecidableEq
instance {n:Nat}:Inhabited (Ar n):=⟨⟨gh n 0,ln⟩⟩
theorem Ar.ext' {n:Nat} {a b:Ar n} (h:a.l=b.l):a=b:=by cases a;cases b;cases h;rfl
theorem Ar.eq_iff {n:Nat} {a b:Ar n}:a=b↔a.l=b.l:=⟨fun h=>by rw [h],Ar.ext'⟩
def mkAr (n:Nat) (l:List Int):Ar n:=⟨(l++gh n 0).take n,by rw [iu,f7,ln];omega⟩
def zA (n:Nat):Ar n:=⟨gh n 0,ln⟩
def zVs (n:Nat) (k:i4):List Value:=gh n (.int k 0)
theorem ynw {n:Nat} {k:i4}:zgn (zVs n k)=some ((zA n).l.map (fl k)):=by
  show zgn (gh n (.int k 0))=some ((gh n 0).map (fl k))
  induction n with
  |zero=>rfl
  |succ n ih=>rw [jh,jh,ja];unfold zgn;rw [ih];rfl
def eAr (k:i4) {n:Nat} (a:Ar n):T:=.agg (a.l.map (fl k))
theorem yfb {k:i4} {n:Nat} (a:Ar n):(eAr k a).cells=a.l.map (fl k):=ge rfl rfl
theorem zfs {k:i4} {n:Nat} (a:Ar n):(eAr k a).cells.length=n:=by rw [yfb,fw,a.h]
theorem zrl {k:i4}:∀ (l:List Int),(l.map (fl k)).all nl=true
  |[]=>rfl
  |x :: l=>by rw [ja,jt,zrl l];rfl
theorem zgq {k:i4} {m:Nat}:∀ (l:List Int),kp m (l.map (fl k))=true
  |[]=>rfl
  |x :: l=>by simp only [ja,kp,qx,zgq l,gj]
theorem yjy {k:i4} {m n:Nat} (a:Ar n):(eAr k a).ids m=true:=zgq a.l
theorem zvf {k:i4}:∀ (l:List Int),rq (l.map (fl k))=true
  |[]=>rfl
  |x :: l=>by simp only [ja,rq,T.flat,zvf l,gj]
section
variable {P:gw}
theorem z2z (len:Nat) (β:Type) (b:β) (f:Nat->β->Sem (ForInStep β)):(forIn [0:len] b f:Sem β)=forIn (q8 0 len) b f:=by
  rw [Std.Legacy.Range.forIn_eq_forIn_range'];simp [Std.Legacy.Range.size]
theorem zjh {k:i4}:∀ (l:List Int),zgp (l.map (fl k))=some (l.map (jn k))
  |[]=>rfl
  |x :: l=>by rw [ja];unfold zgp;rw [zjh l];rfl
theorem ym0 {σ:Type} (s0 s1:σ) (x y:List Int) (len:Nat) (hx:x.length=len) (hy:y.length=len) (f:Nat->σ->Sem (ForInStep σ))
    (hf:∀ i (hi:i<len),za7 P (f i s0)=some (if x[i]=y[i] then .yield s0 else .done s1)) :
    ∀ (m k:Nat),k+m=len->za7 P (forIn (q8 k m) s0 f:Sem σ)=some (if x.drop k=y.drop k then s0 else s1):=by
  intro m
  induction m with
  |zero=>intro k hk;simp [i7 (show x.length<=k by omega),i7 (show y.length<=k by omega)];rfl
  |succ m ih =>
    intro k hk;have hdx:=ky (show k<x.length by omega);have hdy:=ky (show k<y.length by omega);rw [qf,List.forIn_cons,zal,hf k (by omega)];by_cases hxy:x[k]'(by omega)=y[k]'(by omega)
    . rw [zAc hxy];show za7 P (forIn (q8 (k+1) m) s0 f)=_;rw [ih (k+1) (by omega),hdx,hdy];simp only [hxy,o6,true_and]
    . rw [zAd hxy,hdx,hdy];simp only [hxy,o6,false_and,if_false];rfl
theorem ypa (d:Nat) {e:gu} (k k':i4) (a b:Int) (he:P.underlying e=some (.int k)):za7 P (lf (d+1) e (.int k' a) (.int k' b))=some (a == b):=by
  unfold lf;rw [zal,zcj he];cases k'<;>rfl
theorem ypb (d:Nat) {t e len:Nat} {k:i4} {i:TypeInfo} (ht:P.underlying t=some (.array len e)) (he:P.underlying e=some (.int k)) (hi:P.info? e=some i) (hsz:i.size=1) (x y:List Int) (hx:x.length=len) (hy:y.length=len) :
    za7 P (lf (d+2) t (.agg (x.map (jn k)).toArray) (.agg (y.map (jn k)).toArray))=some (x == y):=by
  have hpart:∀ (l:List Int) (j:Nat) (hk:j<l.length),za7 P (part e (l.map (jn k)).toArray j)=some (.int k l[j]):=by
    intro l j hk
    have hagg:za7 P (isAgg e)=some false:=by
      unfold isAgg;rw [zal,zcj he];rfl
    have hp:∀ v:Value,za7 P (pure v:Sem Value)=some v:=fun v=>rfl;simp [part,zal,hagg,hk,hp]
  have hq:∀ a b:Int,za7 P (lf (d+1) e (.int k a) (.int k b))=some (a == b):=fun a b=>ypa d k k a b he;show za7 P (lf ((d+1)+1) _ _ _)=_;generalize d+1=d' at *
  have hsize:za7 P (sizeOf e)=some 1:=by
    unfold sizeOf typeInfo;rw [zal,zal];show ((za7 P (match P.info? e with|some i=>pure i|none=>_)).bind _)=_;rw [hi];show za7 P (pure i.size)=_;rw [hsz];rfl
  have hpu:∀ {α:Type} (v:α),za7 P (pure v:Sem α)=some v:=fun v=>rfl;simp only [lf,zal,zcj ht,fj,hsize,z2z,qo];rw [ym0 (P:=P) (none,()) (some false,()) x y len hx hy _ ?_ len 0 (by omega)]
  . by_cases hxy:x=y
    . subst hxy;simp [hpu]
    . simp [hxy,hpu]
  . intro j hk;simp only [zal,hpart x j (by omega),hpart y j (by omega),fj,hq];by_cases hxy:x[j]'(by omega)=y[j]'(by omega)
    . have e1:((x[j]'(by omega)) == (y[j]'(by omega)))=true:=by rw [hxy];simp
      rw [e1,zAc hxy];simp [hpu]
    . have e1:((x[j]'(by omega)) == (y[j]'(by omega)))=false:=by
        simp only [beq_eq_false_iff_ne,ne_eq];exact hxy
      rw [e1,zAd hxy];simp [hpu]
variable {Γ:Env} {S:TS} {t:gu} {x y:gg}
theorem ybn {n e:Nat} {k:i4} (ht:P.underlying t=some (.array n e)) (he:P.underlying e=some (.int k)) (hi:(P.info? e).map (·.size)=some 1) (hq:P.eqGuardType P.depth t=false) (a b:Ar n) :
    tBin P Γ S t .eql x y (eAr k a) (eAr k b)=some (.bool (decide (a=b)))/\tBin P Γ S t .neq x y (eAr k a) (eAr k b)=some (.bool (!(decide (a=b)))):=by
  obtain ⟨i,hi1,hi2⟩:∃ i,P.info? e=some i/\i.size=1:=by
    cases h:P.info? e with
    |none=>rw [h] at hi;simp at hi
    |some i=>rw [h] at hi;exact ⟨i,rfl,by simpa using hi⟩
  have h:=ypb (P:=P) 9998 ht he hi1 hi2 a.l b.l a.h b.h
  have hg:∀ op,op=.eql\/op=.neq->za7 P (eqGuard op t x y (.agg (a.l.map (jn k)).toArray) (.agg (b.l.map (jn k)).toArray))=some ():=by
    intro op hop;rcases hop with rfl|rfl
    . show za7 P (if !(P.eqGuardType P.depth t) then pure () else _)=some ();rw [hq];rfl
    . show za7 P (if !(P.eqGuardType P.depth t) then pure () else _)=some ();rw [hq];rfl
  have hd:(a.l == b.l)=decide (a=b):=by
    by_cases hab:a=b
    . rw [hab];simp
    . rw [zAb hab];have:a.l≠b.l:=fun hh=>hab (Ar.ext' hh);simp [this]
  have he:za7 P (binOp .eql t (.agg (a.l.map (jn k)).toArray) (.agg (b.l.map (jn k)).toArray))=some (.bool (decide (a=b))):=by
    show za7 P (do pure (so (<- rc t (.agg (a.l.map (jn k)).toArray) (.agg (b.l.map (jn k)).toArray))):Sem Value)=_;have h2:za7 P (rc t (.agg (a.l.map (jn k)).toArray) (.agg (b.l.map (jn k)).toArray))=some (a.l == b.l):=h;rw [zal,h2,hd];rfl
  have hn:za7 P (binOp .neq t (.agg (a.l.map (jn k)).toArray) (.agg (b.l.map (jn k)).toArray))=some (.bool (!(decide (a=b)))):=by
    show za7 P (do pure (so (!(<- rc t (.agg (a.l.map (jn k)).toArray) (.agg (b.l.map (jn k)).toArray)))):Sem Value)=_;have h2:za7 P (rc t (.agg (a.l.map (jn k)).toArray) (.agg (b.l.map (jn k)).toArray))=some (a.l == b.l):=h;rw [zal,h2,hd];rfl
  constructor
  . show zot P t .eql x y _ _=_;unfold zot;rw [zjh,zjh];simp only;rw [zal,hg _ (.inl rfl)];show (match za7 P (binOp .eql t (.agg (a.l.map (jn k)).toArray) (.agg (b.l.map (jn k)).toArray)) with|some (.bool r)=>some (T.bool r)|_=>none)=_;rw [he]
  . show zot P t .neq x y _ _=_;unfold zot;rw [zjh,zjh];simp only;rw [zal,hg _ (.inr rfl)];show (match za7 P (binOp .neq t (.agg (a.l.map (jn k)).toArray) (.agg (b.l.map (jn k)).toArray)) with|some (.bool r)=>some (T.bool r)|_=>none)=_;rw [hn]
end
section
variable {GL:List (Nat×List Value)} {A A' A2:Nat->Prop} {β β' β2:Bx} {S S' S2:TS} {s s' s2:CS} {P:gw} {Γ:Env} {N:Nat} {h h' h2:Nat->T} {Q R:Exit->(Nat->T)->TS->Prop}
theorem VL.setAt {g:Nat->Fam} {t:T} {v:Value}:∀ {l:List T} {vs:List Value} {i:Nat},VL A β g l vs->vs[i]?=some v->VT A β g t v->VL A β g (l.set i t) vs
  |[],_,_,.nil,_,_=>.nil
  |x :: l,y :: vs,0,.cons k1 k2,hv,ht=>by
    simp only [ij,fi] at hv;subst hv;exact .cons ht k2
  |x :: l,y :: vs,i+1,.cons k1 k2,hv,ht=>.cons k1 (VL.setAt k2 (by simpa using hv) ht)
theorem TW.freezeC {c:Code} (c0 i:Nat) {b e len M N0:Nat} {z z0:Bool} {l l0:List T} (L:List T) (hS0:S.box c0=.cells z0 N0 l0) (hi:l0[i]?=some (.arr b e 0 len len M)) (hne:c0≠b) (hS:S.box b=.cells z M l) (he:0<e) (hoff:0+len*e<=M) (hL:(l.drop 0).take (len*e)=L.flatMap jj) (hs:∀ t,t∈L->t.cells.length=e) (hlen:L.length=len)
    (k:TW P Γ GL N c h ((S.set c0 (.cells z0 N0 (l0.set i (.lst e L)))).set b .gone) Q):TW P Γ GL N c h S Q:=by
  intro A β fr s hF hT;obtain ⟨A',β',k1,k2,k3⟩:=hT.freeze hS;obtain ⟨n0,hc⟩:=hT.cells c0 z0 N0 l0 hS0;have hS0':(S.set b .gone).box c0=.cells z0 N0 l0:=by rw [nm _ _ hne];exact hS0
  obtain ⟨n1,hc'⟩:=k1.cells c0 z0 N0 l0 hS0';have hi0:i<l0.length:=(gl.1 hi).1
  have hnew:zpe A' β' (zaa s.obj) c0 z0 N0 (l0.set i (.lst e L)):=by
    rcases hc with ⟨_,q,_⟩|⟨f,u,cs,rest,a1,a2,a3,a4,a5⟩
    . omega
    . rcases hc' with ⟨_,q,_⟩|⟨f',u',cs',rest',b1,b2,b3,b4,b5⟩
      . omega
      . obtain ⟨l',c1,c2⟩:=k2.bx c0 _ a1;rw [b1] at c1;cases c1;simp only [Loc.le] at c2;rcases c2 with ⟨rfl,rfl,_⟩|c2
        . rw [a3] at b3;simp only [Fam.mk.injEq,o6,ft] at b3;obtain ⟨_,⟨⟨_,rfl⟩,rfl⟩,_⟩:=b3;obtain ⟨v,v1,v2⟩:=a4.get hi;refine ⟨by rw [qs];exact n0,.inr ⟨f,u,cs,rest,b1,a2,a3,b4.setAt v1 (k3 v2 he hoff hL hs hlen (fx _)),a5⟩⟩
        . omega
  have hT':TRel GL A' β' ((S.set c0 (.cells z0 N0 (l0.set i (.lst e L)))).set b .gone) s:=by
    refine ⟨k1.inr,k1.inv,k1.alt,k1.dis,k1.inj,k1.next,fun b' z N' l' hb'=>?_,fun b' l' hb'=>?_,k1.glob⟩
    . by_cases e1:b'=b
      . subst e1;rw [ng] at hb';cases hb'
      . rw [nm _ _ e1] at hb';by_cases e2:b'=c0
        . subst e2;rw [ng] at hb';cases hb';exact hnew
        . rw [nm _ _ e2] at hb';exact k1.cells b' z N' l' (by rw [nm _ _ e1];exact hb')
    . by_cases e1:b'=b
      . subst e1;rw [ng] at hb';cases hb'
      . rw [nm _ _ e1] at hb';by_cases e2:b'=c0
        . subst e2;rw [ng] at hb';cases hb'
        . rw [nm _ _ e2] at hb';exact k1.maps b' l' (by rw [nm _ _ e1];exact hb')
  have hF':FrOk A' β' (zaa s.obj) N h fr:=⟨hF.nt,hF.le,fun u=>k2.vt hT (hF.slot u)⟩;refine (k A' β' fr s hF' hT').mono ?_;rintro e2 fr2 s2 ⟨h2,S2,l2,q2⟩;exact ⟨h2,S2,Left.trans (h':=h) (fr':=fr) hT.le k2 l2,q2⟩
theorem TW.nilC {c:Code} (c0 i e:Nat) {N0:Nat} {z0:Bool} {l0:List T} (hS0:S.box c0=.cells z0 N0 l0) (hi:l0[i]?=some .nils) (k:TW P Γ GL N c h (S.set c0 (.cells z0 N0 (l0.set i (.lst e [])))) Q):TW P Γ GL N c h S Q:=by
  intro A β fr s hF hT;obtain ⟨n0,hc⟩:=hT.cells c0 z0 N0 l0 hS0;have hi0:i<l0.length:=(gl.1 hi).1
  have hnew:zpe A β (zaa s.obj) c0 z0 N0 (l0.set i (.lst e [])):=by
    rcases hc with ⟨_,q,_⟩|⟨f,u,cs,rest,a1,a2,a3,a4,a5⟩
    . omega
    . obtain ⟨v,v1,v2⟩:=a4.get hi;refine ⟨by rw [qs];exact n0,.inr ⟨f,u,cs,rest,a1,a2,a3,a4.setAt v1 ?_,a5⟩⟩;cases v2;exact .lnil
  have hT':TRel GL A β (S.set c0 (.cells z0 N0 (l0.set i (.lst e [])))) s:=by
    refine ⟨hT.inr,hT.inv,hT.alt,hT.dis,hT.inj,hT.next,fun b' z N' l' hb'=>?_,fun b' l' hb'=>?_,hT.glob⟩
    . by_cases e2:b'=c0
      . subst e2;rw [ng] at hb';cases hb';exact hnew
      . rw [nm _ _ e2] at hb';exact hT.cells b' z N' l' hb'
    . by_cases e2:b'=c0
      . subst e2;rw [ng] at hb';cases hb'
      . rw [nm _ _ e2] at hb';exact hT.maps b' l' hb'
  exact k A β fr s hF hT'
theorem TW.vecC {c:Code} (c0 i e:Nat) {N0:Nat} {z0:Bool} {l0:List T} (hS0:S.box c0=.cells z0 N0 l0) (hi:l0[i]?=some .nils) (h0:c0<S.n) (k:TW P Γ GL N c h ((S.set c0 (.cells z0 N0 (l0.set i (.arr S.n e 0 0 0 0)))).add (.cells false 0 [])) Q):TW P Γ GL N c h S Q:=by
  intro A β fr s hF hT;have hb0:β S.n=none:=hT.next _ (fx _)
  have hle:Bx.le β (bnew β S.n .nil):=z0q hb0;have hse:bnew β S.n .nil S.n=some .nil:=zAc rfl;have hne:∀ b',b'≠S.n->bnew β S.n .nil b'=β b':=fun b' hb'=>zAd hb'
  have hown:∀ f,Own (bnew β S.n .nil) f->Own β f:=fun f ⟨b',hb'⟩=>by
    by_cases hi:b'=S.n
    . subst hi;rw [hse] at hb';rcases hb' with ⟨u,N,hb'⟩|hb'<;>simp at hb'
    . rw [hne b' hi] at hb';exact ⟨b',hb'⟩
  have hst:Stp A β s A (bnew β S.n .nil) s:=⟨Can.refl _,fun _ h=>h,fun _ h=>.inl h,fun f hf=>.inl (hown f hf),fun _ _ _=>rfl,hle,fun _ h=>.inl h,fun _ h=>.inl h⟩;obtain ⟨n0,hc⟩:=hT.cells c0 z0 N0 l0 hS0;have hi0:i<l0.length:=(gl.1 hi).1
  have hnew:zpe A (bnew β S.n .nil) (zaa s.obj) c0 z0 N0 (l0.set i (.arr S.n e 0 0 0 0)):=by
    rcases hc with ⟨_,q,_⟩|⟨f,u,cs,rest,a1,a2,a3,a4,a5⟩
    . omega
    . obtain ⟨v,v1,v2⟩:=a4.get hi;have a4':=a4.mono (A':=A) (β':=bnew β S.n .nil) (g':=zaa s.obj) (fun _ h=>h) (fun _ _=>rfl) hle;refine ⟨by rw [qs];exact n0,.inr ⟨f,u,cs,rest,by rw [hne c0 (by omega)];exact a1,a2,a3,a4'.setAt v1 ?_,a5⟩⟩;cases v2;exact .arrNil hse
  have hT':TRel GL A (bnew β S.n .nil) ((S.set c0 (.cells z0 N0 (l0.set i (.arr S.n e 0 0 0 0)))).add (.cells false 0 [])) s:=by
    refine ⟨hT.inr,hT.inv,hT.alt,fun f hf=>hT.dis f (hown f hf),fun b1 b2 l1 l2 f h1 h2 h3 h4=>?_,fun b' hb'=>?_,fun b' z N l hb'=>?_,fun b' l hb'=>?_,hT.glob⟩
    . by_cases e1:b1=S.n
      . subst e1;rw [hse] at h1;cases h1;simp [Loc.fam] at h3
      . by_cases e2:b2=S.n
        . subst e2;rw [hse] at h2;cases h2;simp [Loc.fam] at h4
        . rw [hne b1 e1] at h1;rw [hne b2 e2] at h2;exact hT.inj b1 b2 l1 l2 f h1 h2 h3 h4
    . have:S.n+1<=b':=hb';rw [hne b' (by omega)];exact hT.next b' (by omega)
    . by_cases hi:b'=S.n
      . subst hi;have hq:=(TS.add_same (S.set c0 (.cells z0 N0 (l0.set i (.arr S.n e 0 0 0 0)))) (.cells false 0 [])).symm.trans hb';cases hq;exact ⟨rfl,.inl ⟨hse,rfl,rfl⟩⟩
      . rw [TS.add_ne _ _ (show b'≠(S.set c0 (.cells z0 N0 (l0.set i (.arr S.n e 0 0 0 0)))).n from hi)] at hb';by_cases e2:b'=c0
        . subst e2;rw [ng] at hb';cases hb';exact hnew
        . rw [nm _ _ e2] at hb';exact (hT.cells b' z N l hb').mono (fun _ h=>h) (fun _ _=>rfl) hle (hne b' hi) fun _ _ _ _=>rfl
    . by_cases hi:b'=S.n
      . subst hi;have hq:=(TS.add_same (S.set c0 (.cells z0 N0 (l0.set i (.arr S.n e 0 0 0 0)))) (.cells false 0 [])).symm.trans hb';cases hq
      . rw [TS.add_ne _ _ (show b'≠(S.set c0 (.cells z0 N0 (l0.set i (.arr S.n e 0 0 0 0)))).n from hi)] at hb';by_cases e2:b'=c0
        . subst e2;rw [ng] at hb';cases hb'
        . rw [nm _ _ e2] at hb';exact (hT.maps b' l hb').mono (fun _ h=>h) (fun _ _=>rfl) hle (hne b' hi) fun _ _=>rfl
  have hF':FrOk A (bnew β S.n .nil) (zaa s.obj) N h fr:=⟨hF.nt,hF.le,fun u=>hst.vt hT (hF.slot u)⟩;refine (k A _ fr s hF' hT').mono ?_;rintro e2 fr2 s2 ⟨h2,S2,l2,q2⟩;exact ⟨h2,S2,Left.trans (h':=h) (fr':=fr) hT.le hst l2,q2⟩
end
theorem zgl {α:Type} (f:α->T) (l:List α):(l.map f).flatMap jj=vecC f l:=rfl
theorem zez {α:Type} {f:α->T} (h:∀ x,(f x).cells.all nl=true):∀ (l:List α),(vecC f l).all nl=true
  |[]=>rfl
  |x :: l=>by
    have ih:=zez h l;unfold vecC at ih ⊢;rw [ja,jg,List.all_append,h,ih];rfl
def Le1:List T->List T->Prop
  |[],[]=>True
  |t :: l,t' :: l'=>(t=t'\/(t=.nils/\∃ e,t'=.lst e []))/\Le1 l l'
  |_,_=>False
def Le2:List T->List T->Prop
  |[],[]=>True
  |t :: l,t' :: l'=>(t=t'\/(t=.nils/\∃ e,t'=.lst e [])\/∃ m m',t=.agg m/\t'=.agg m'/\Le1 m m')/\Le2 l l'
  |_,_=>False
theorem Le1.vl {A:Nat->Prop} {β:Bx} {g:Nat->Fam}:∀ {l l':List T} {vs:List Value},Le1 l l'->VL A β g l vs->VL A β g l' vs
  |[],[],_,_,.nil=>.nil
  |t :: l,t' :: l',_,h,.cons k1 k2=>by
    obtain ⟨h1,h2⟩:=h;rcases h1 with rfl|⟨rfl,e,rfl⟩
    . exact .cons k1 (Le1.vl h2 k2)
    . cases k1;exact .cons .lnil (Le1.vl h2 k2)
theorem Le2.vl {A:Nat->Prop} {β:Bx} {g:Nat->Fam}:∀ {l l':List T} {vs:List Value},Le2 l l'->VL A β g l vs->VL A β g l' vs
  |[],[],_,_,.nil=>.nil
  |t :: l,t' :: l',_,h,.cons k1 k2=>by
    obtain ⟨h1,h2⟩:=h;rcases h1 with rfl|⟨rfl,e,rfl⟩|⟨m,m',rfl,rfl,h3⟩
    . exact .cons k1 (Le2.vl h2 k2)
    . cases k1;exact .cons .lnil (Le2.vl h2 k2)
    . cases k1 with|agg k=>exact .cons (.agg (h3.vl k)) (Le2.vl h2 k2)
theorem ypi {n:Nat} {i:Int} (h:0<=i/\i<=(n:Int)):zb2 n n (some (.int .i64 i)) none none=some (i.toNat,n,n):=by
  obtain ⟨k,rfl⟩:∃ k:Nat,i=(k:Int):=⟨i.toNat,by omega⟩;exact yie rfl (by omega) (fx _)
theorem Ar.len {n:Nat} (a:Ar n):a.l.length=n:=a.h
def Ar.set {n:Nat} (a:Ar n) (i v:Int):Ar n:=⟨a.l.set i.toNat v,by rw [qs,a.h]⟩
theorem yfa {k:i4} {n:Nat} (a:Ar n):eAr k a=.agg (a.l.map (fl k)):=ge rfl rfl
theorem arIx {n:Nat} (a:Ar n) {i:Int} (h:0<=i/\i<(n:Int)):a.l[i.toNat]?=some (gx a.l i):=zag (by rw [a.h];exact h)
theorem arSpl {k:i4} {n:Nat} (a b:Ar n):spl (a.l.map (fl k)) 0 (b.l.map (fl k))=b.l.map (fl k):=by
  unfold spl;rw [nh,gm,i7 (by rw [fw,fw,a.h,b.h];omega),ic]
theorem ypn {k:i4} {n:Nat} (a:Ar n) {i:Int} (v:Int) (h:0<=i/\i<(n:Int)):spl (a.l.map (fl k)) i.toNat [fl k v]=(a.set i v).l.map (fl k):=by
  exact yl8 (f:=fl k) (v:=v) (L:=a.l) (i:=i.toNat) (by rw [a.h];omega)
def u8o (z:Int):UInt8:=UInt8.ofNat z.toNat
def strL (l:List Int):ByteArray:=⟨(l.map u8o).toArray⟩
def bytL (s:ByteArray):List Int:=s.data.toList.map fun c=>(c.toNat:Int)
theorem z9a (s:ByteArray):(bytL s).length=s.size:=by unfold bytL;rw [fw];exact Array.length_toList
theorem z3v (s:ByteArray):zh1 s=(bytL s).map (fl .u8):=by
  unfold zh1 bytL;rw [List.map_map];rfl
theorem z0s:∀ (l:List Int),zvx (l.map (fl .u8))=some (l.map u8o)
  |[]=>rfl
  |x :: l=>by rw [ja];unfold zvx;rw [z0s l];rfl
theorem z6d (l:List Int):(⟨(l.map u8o).toArray⟩:ByteArray)=strL l:=ge rfl rfl
theorem z0m {k:i4}:∀ (l:List Int),(l.map (fl k)).flatMap jj=l.map (fl k)
  |[]=>rfl
  |x :: l=>by rw [ja,jg,z0m l];rfl
theorem yl2 {k:i4} {l:List Int} {n:Nat} (h:l.length=n):(l.map (fl k)).take n=l.map (fl k):=il (by rw [fw,h];omega)
theorem ybf {k:i4} {l:List Int}:(l.map (fl k)).take l.length=l.map (fl k):=yl2 rfl
def cpA {n:Nat} (a:Ar n) (s:ByteArray):Ar n:=⟨(bytL s).take (min s.size n)++a.l.drop (min s.size n),by rw [f7,iu,jl,z9a,a.h];omega⟩
theorem ylm {n:Nat} (a:Ar n) (s:ByteArray):spl (a.l.map (fl .u8)) 0 (((bytL s).map (fl .u8)).take (min s.size n))=(cpA a s).l.map (fl .u8):=by
  unfold spl cpA;rw [nh,gm,iu,fw,z9a,List.map_append,List.map_take,List.map_drop,jb];congr 2;omega
theorem yf5 {k:i4} {l:List Int} {n:Nat}:((l.map (fl k)).take n).all nl=true:=by rw [<- List.map_take];exact zrl _
theorem yll {n:Nat}:zb2 n n none none none=some (0,n,n):=yas (fx _)
theorem yhd {d k:Nat}:natO d (some (.int .i64 (k:Int)))=some k:=by
  rfl
theorem ypj {n:Nat} {j:Int} (h:0<=j/\j<=(n:Int)):zb2 n n none (some (.int .i64 j)) none=some (0,j.toNat,n):=by
  obtain ⟨b,rfl⟩:∃ k:Nat,j=(k:Int):=⟨j.toNat,by omega⟩;rw [zok,yhd];show (bif Nat.ble 0 b && Nat.ble b n && Nat.ble n n && _ then some (0,b,n) else none)=_;rw [zhj (by omega),zhj (by omega),zhj (fx _)];rfl
theorem sub0 {n:Nat}:n - 0=n:=Nat.sub_zero n
inductive CK where
  |int (k:i4)
  |bool
  |str
def ckV:CK->Value->Bool
  |.int k,.int k' _=>decide (k=k')
  |.bool,.bool _=>true
  |.str,.string _=>true
  |_,_=>false
def zep:List CK->List Value->Bool
  |[],[]=>true
  |c :: l,v :: m=>ckV c v && zep l m
  |_,_=>false
def znr:Value->Value->Bool
  |.int _ a,.int _ b=>a == b
  |.bool a,.bool b=>a == b
  |.string a,.string b=>a == b
  |_,_=>false
def eqVs:List Value->List Value->Bool
  |v :: l,w :: m=>znr v w && eqVs l m
  |_,_=>true
theorem zqi:∀ {sh:List CK} {xs:List Value},zep sh xs=true->xs.length=sh.length
  |[],[],_=>rfl
  |_ :: _,_ :: _,h=>by
    simp only [zep,fo] at h;rw [gp,gp,zqi h.2]
  |[],_ :: _,h=>by simp [zep] at h
  |_ :: _,[],h=>by simp [zep] at h
theorem zof {c:CK}:∀ {xs:List Value},zep [c] xs=true->∃ v,xs=[v]/\ckV c v=true
  |[],h=>by simp [zep] at h
  |[v],h=>⟨v,rfl,by simpa [zep] using h⟩
  |_ :: _ :: _,h=>by simp [zep] at h
theorem zri:∀ {a b:List CK} {xs:List Value},zep (a++b) xs=true->zep a (xs.take a.length)=true/\zep b (xs.drop a.length)=true
  |[],b,xs,h=>⟨by simp [zep],by simpa using h⟩
  |c :: a,b,[],h=>by simp [zep] at h
  |c :: a,b,v :: xs,h=>by
    simp only [gz,zep,fo] at h;obtain ⟨h1,h2⟩:=zri h.2;exact ⟨by simp only [gp,List.take_succ_cons,zep,h.1,h1,gj],by simpa using h2⟩
theorem zl7:∀ {a b c d:List Value},a.length=c.length->eqVs (a++b) (c++d)=(eqVs a c && eqVs b d)
  |[],b,[],d,_=>rfl
  |x :: a,b,y :: c,d,h=>by
    simp only [gz,eqVs,zl7 (Nat.succ.inj h),Bool.and_assoc]
  |[],_,_ :: _,_,h=>by simp at h
  |_ :: _,_,[],_,h=>by simp at h
def valA (a:Bool) (xs:List Value):Value:=if a then .agg xs.toArray else xs.headD undef
noncomputable def zoy (P:gw) (g:gu->Option (Bool×List CK)):List Field->Nat->Option (List CK)
  |[],_=>some []
  |f :: l,off=>match g f.type,(P.info? f.type).map (fun i=>i.size) with
    | some (_, sh), some sz => if f.name ≠ "_" /\ f.offset = off /\ sz = sh.length then
        (match zoy P g l (off+sh.length) with|some r=>some (sh++r)|none=>none) else none
    |_,_=>none
noncomputable def zg6 (P:gw):Nat->gu->Option (Bool×List CK)
  |0,_=>none
  |d+1,t=>match P.underlying t with
    |some (.int k)=>some (false,[.int k])
    |some .bool=>some (false,[.bool])
    |some .string=>some (false,[.str])
    |some (.struct fs)=>if P.stoodInHeld t=true then none else (match zoy P (zg6 P d) fs.toList 0 with|some l=>some (true,l)|none=>none)
    |some (.array n e)=>(match zg6 P d e,(P.info? e).map (fun i=>i.size) with
      |some (_,sh),some sz=>if sz=sh.length then some (true,(gh n sh).flatten) else none
      |_,_=>none)
    |_=>none
section
variable {P:gw}
theorem z0f {α σ:Type} (s0 s1:σ) (f:α->σ->Sem (ForInStep σ)) (b:α->Bool):∀ (l:List α),(∀ x,x∈l->za7 P (f x s0)=some (if b x then .yield s0 else .done s1))->za7 P (forIn l s0 f:Sem σ)=some (if l.all b then s0 else s1)
  |[],_=>by simp;rfl
  |x :: l,h=>by
    rw [List.forIn_cons,zal,h x (.head _)]
    cases hb:b x with
    |true =>
      show za7 P (forIn l s0 f)=_;rw [z0f s0 s1 f b l fun y hy=>h y (.tail _ hy),jt,hb,kh]
    |false =>
      rw [jt,hb,Bool.false_and];rfl
theorem yh3 {d:Nat} {t:gu} {a:Bool} {sh:List CK} (h:zg6 P d t=some (a,sh)):za7 P (isAgg t)=some a:=by
  cases d with
  |zero=>simp [zg6] at h
  |succ d =>
    unfold zg6 at h;unfold isAgg;rw [zal]
    cases hu:P.underlying t with
    |none=>rw [hu] at h;simp at h
    |some u =>
      rw [hu] at h;rw [zcj hu]
      cases u with
      |int k=>simp at h;rw [<- h.1];rfl
      |bool=>simp at h;rw [<- h.1];rfl
      |string=>simp at h;rw [<- h.1];rfl
      |struct fs =>
        simp only at h;split at h
        . simp at h
        . split at h
          . simp at h;rw [<- h.1];rfl
          . simp at h
      |array n e =>
        simp only at h;split at h
        . split at h
          . simp at h;rw [<- h.1];rfl
          . simp at h
        . simp at h
      |_=>simp at h
theorem yb4 {d:Nat} {t:gu} {sh:List CK} (h:zg6 P d t=some (false,sh)):∃ c,sh=[c]:=by
  cases d with
  |zero=>simp [zg6] at h
  |succ d =>
    unfold zg6 at h;split at h
    . simp at h;exact ⟨_,h.symm⟩
    . simp at h;exact ⟨_,h.symm⟩
    . simp at h;exact ⟨_,h.symm⟩
    . split at h
      . simp at h
      . split at h<;>simp at h
    . split at h
      . split at h<;>simp at h
      . simp at h
    . simp at h
theorem z26 {t:gu} {sz:Nat} (h:(P.info? t).map (fun i=>i.size)=some sz):za7 P (sizeOf t)=some sz:=by
  cases hi:P.info? t with
  |none=>rw [hi] at h;simp at h
  |some i =>
    rw [hi] at h;unfold sizeOf typeInfo;rw [zal,zal];show ((za7 P (match P.info? t with|some i=>pure i|none=>_)).bind _)=_;rw [hi];simp at h;show za7 P (pure i.size)=_;rw [h];rfl
theorem ztc {d : Nat} {t : gu} {a : Bool} {sh : List CK} (h : zg6 P d t = some (a, sh)) (hs : (P.info? t).map (fun i => i.size) = some sh.length) (xs : List Value) (off : Nat) (hl : off + sh.length <= xs.length) :
    za7 P (part t xs.toArray off)=some (valA a ((xs.drop off).take sh.length)):=by
  unfold part;rw [zal,yh3 h]
  cases a with
  |true =>
    show za7 P (do let n <- sizeOf t;pure (Value.agg (xs.toArray.extract off (off+n))))=_;rw [zal,z26 hs];show some (Value.agg (xs.toArray.extract off (off+sh.length)))=_;rw [List.extract_toArray,List.extract_eq_take_drop,Nat.add_sub_cancel_left];rfl
  |false =>
    obtain ⟨c,rfl⟩:=yb4 h;simp only [gp,jk,jb] at hl ⊢;show za7 P (match xs.toArray[off]? with|some v=>pure v|none=>_)=_;rw [List.getElem?_toArray,fp (by omega),ky (by omega)];rfl
theorem zyh {g:gu->Option (Bool×List CK)}:∀ {l:List Field} {off:Nat} {sh:List CK} {xs ys:List Value},zoy P g l off=some sh->xs.length=off+sh.length->ys.length=off+sh.length ->
    (l.all fun f=>match g f.type with|some (_,s)=>eqVs ((xs.drop f.offset).take s.length) ((ys.drop f.offset).take s.length)|none=>true)=eqVs (xs.drop off) (ys.drop off)
  |[],off,sh,xs,ys,h,hx,hy=>by
    simp only [zoy,fi] at h;subst h;rw [i7 (by simp at hx;omega),i7 (by simp at hy;omega)];rfl
  |f :: l,off,sh,xs,ys,h,hx,hy=>by
    unfold zoy at h;split at h
    . rename_i a s sz hg hs;split at h
      . rename_i hc;split at h
        . rename_i r hr;cases h;rw [f7] at hx hy;rw [jt,zyh hr (by omega) (by omega),hg];simp only;rw [hc.2.1]
          have hr2:eqVs (xs.drop off) (ys.drop off)=(eqVs ((xs.drop off).take s.length) ((ys.drop off).take s.length) && eqVs (xs.drop (off+s.length)) (ys.drop (off+s.length))):=by
            conv=>lhs;rw [<- je s.length (xs.drop off),<- je s.length (ys.drop off)]
            rw [zl7 (by rw [iu,iu,jl,jl];omega),l6,l6]
          rw [hr2]
        . cases h
      . cases h
    . cases h
theorem zox {g : gu -> Option (Bool × List CK)} : ∀ {l : List Field} {off : Nat} {sh : List CK} {xs : List Value}, zoy P g l off = some sh -> xs.length = off + sh.length -> zep sh (xs.drop off) = true -> ∀ f, f ∈ l -> ∃ a s, g f.type = some (a, s) /\ (P.info? f.type).map (fun i => i.size) = some s.length /\ f.name ≠ "_" /\ f.offset + s.length <= xs.length /\ zep s ((xs.drop f.offset).take s.length) = true
  |[],off,sh,xs,h,hx,hf,f,hm=>by cases hm
  |f' :: l,off,sh,xs,h,hx,hf,f,hm=>by
    unfold zoy at h;split at h
    . rename_i a s sz hg hs;split at h
      . rename_i hc;split at h
        . rename_i r hr;cases h;rw [f7] at hx;obtain ⟨f1,f2⟩:=zri hf;rw [l6] at f2
          cases hm with
          |head=>exact ⟨a,s,hg,by rw [hs,hc.2.2],hc.1,by rw [hc.2.1];omega,by rw [hc.2.1];exact f1⟩
          |tail _ hm=>exact zox hr (by omega) f2 f hm
        . cases h
      . cases h
    . cases h
theorem z8i {s:List CK}:∀ (n k:Nat) {xs ys:List Value},xs.length=(k+n)*s.length->ys.length=(k+n)*s.length ->
    ((q8 k n).all fun i=>eqVs ((xs.drop (i*s.length)).take s.length) ((ys.drop (i*s.length)).take s.length))=eqVs (xs.drop (k*s.length)) (ys.drop (k*s.length))
  |0,k,xs,ys,hx,hy=>by
    rw [i7 (by rw [hx];exact fx _),i7 (by rw [hy];exact fx _)];rfl
  |n+1,k,xs,ys,hx,hy=>by
    have e:(k+(n+1))*s.length=k*s.length+s.length+n*s.length:=by rw [js,js,ni];omega
    rw [qf,jt,z8i n (k+1) (by rw [hx];congr 1;omega) (by rw [hy];congr 1;omega)];rw [js,ni,<- l6,<- l6,<- zl7 (by rw [iu,iu,jl,jl];omega),je,je]
theorem z0b {s:List CK}:∀ {n:Nat} {xs:List Value},zep (gh n s).flatten xs=true->∀ i,i<n->zep s ((xs.drop (i*s.length)).take s.length)=true
  |0,xs,h,i,hi=>by omega
  |n+1,xs,h,i,hi=>by
    rw [jh,ir] at h;obtain ⟨h1,h2⟩:=zri h
    cases i with
    |zero=>simpa using h1
    |succ i =>
      have:=z0b h2 i (by omega);rw [l6] at this;rw [js,ni,Nat.add_comm];exact this
theorem yk8:∀ (d:Nat) {t:gu} {a:Bool} {sh:List CK},zg6 P d t=some (a,sh)->∀ {xs ys:List Value},zep sh xs=true->zep sh ys=true->za7 P (lf d t (valA a xs) (valA a ys))=some (eqVs xs ys):=by
  intro d
  induction d with
  |zero=>intro t a sh h;simp [zg6] at h
  |succ d ih =>
    intro t a sh h xs ys hx hy;have hpu:∀ {α:Type} (v:α),za7 P (pure v:Sem α)=some v:=fun v=>rfl;unfold zg6 at h;unfold lf;rw [zal]
    cases hu:P.underlying t with
    |none=>rw [hu] at h;simp at h
    |some u =>
      rw [hu] at h;rw [zcj hu]
      cases u with
      |int k =>
        simp at h;obtain ⟨rfl,rfl⟩:=h;obtain ⟨v,rfl,h1⟩:=zof hx;obtain ⟨w,rfl,h2⟩:=zof hy
        . cases v<;>simp [ckV] at h1;cases w<;>simp [ckV] at h2;subst h1 h2
          simp [valA,eqVs,znr,hpu]
      |bool =>
        simp at h;obtain ⟨rfl,rfl⟩:=h;obtain ⟨v,rfl,h1⟩:=zof hx;obtain ⟨w,rfl,h2⟩:=zof hy
        . cases v<;>simp [ckV] at h1;cases w<;>simp [ckV] at h2
          simp [valA,eqVs,znr,hpu]
      |string =>
        simp at h;obtain ⟨rfl,rfl⟩:=h;obtain ⟨v,rfl,h1⟩:=zof hx;obtain ⟨w,rfl,h2⟩:=zof hy
        . cases v<;>simp [ckV] at h1;cases w<;>simp [ckV] at h2
          simp [valA,eqVs,znr,hpu]
      |struct fs =>
        simp only at h;split at h
        . simp at h
        . rename_i hst;split at h
          . rename_i l hl;simp at h;obtain ⟨rfl,rfl⟩:=h;have lx:=zqi hx;have ly:=zqi hy;have hall:=zyh hl (by rw [lx];omega) (by rw [ly];omega);rw [gt,gt] at hall;simp only [valA,if_true,fj];rw [zal];show (((some P:Option gw)).bind _)=_;simp only [fj,zAd hst];rw [zal];show ((za7 P (forIn fs _ _)).bind _)=_;rw [<- Array.forIn_toList];rw [z0f (P:=P) (none,()) (some false,()) _ (fun f=>match zg6 P d f.type with|some (_,s)=>eqVs ((xs.drop f.offset).take s.length) ((ys.drop f.offset).take s.length)|none=>true) fs.toList ?_]
            . rw [hall];cases eqVs xs ys<;>rfl
            . intro f hf;obtain ⟨a,s,g1,g2,g3,g4,g5⟩:=zox hl (by rw [lx];omega) (by rw [gt];exact hx) f hf;obtain ⟨a',s',g1',_,_,g4',g5'⟩:=zox hl (by rw [ly];omega) (by rw [gt];exact hy) f hf;rw [g1] at g1';cases g1';rw [zAc g3,zal,ztc g1 g2 _ _ g4];simp only [fj];rw [zal,ztc g1 g2 _ _ g4'];simp only [fj];rw [zal,ih g1 g5 g5',g1];simp only [fj];have hq:∀ q:Bool,za7 P (if (!q)=true then pure (ForInStep.done (some false,())) else pure (ForInStep.yield (none,())):Sem (ForInStep (Option Bool×Unit)))=some (if q=true then .yield (none,()) else .done (some false,())):=by intro q;cases q<;>rfl
              exact hq _
          . simp at h
      |array n e =>
        simp only at h;split at h
        . rename_i ae se sz hse hsz;split at h
          . rename_i hc;subst hc;simp at h;obtain ⟨rfl,rfl⟩:=h;have lx:=zqi hx;have ly:=zqi hy;have hlen:(gh n se).flatten.length=n*se.length:=by simp
            rw [hlen] at lx ly;simp only [valA,if_true,fj];rw [zal,z26 hsz];simp only [fj,z2z];rw [zal,z0f (P:=P) (none,()) (some false,()) _ (fun i=>eqVs ((xs.drop (i*se.length)).take se.length) ((ys.drop (i*se.length)).take se.length)) (q8 0 n) ?_]
            . rw [z8i n 0 (by rw [lx];congr 1;omega) (by rw [ly];congr 1;omega),Nat.zero_mul,gt,gt];cases eqVs xs ys<;>rfl
            . intro i hi;have hin:i<n:=by have:=List.mem_range'_1.1 hi;omega
              have hle:i*se.length+se.length<=n*se.length:=by
                have:=Nat.mul_le_mul_right se.length (show i+1<=n by omega);rw [js,ni] at this;exact this
              rw [zal,ztc hse hsz _ _ (by omega)];simp only [fj];rw [zal,ztc hse hsz _ _ (by omega)];simp only [fj];rw [zal,ih hse (z0b hx i hin) (z0b hy i hin)];simp only [fj];have hq:∀ q:Bool,za7 P (if (!q)=true then pure (ForInStep.done (some false,())) else pure (ForInStep.yield (none,())):Sem (ForInStep (Option Bool×Unit)))=some (if q=true then .yield (none,()) else .done (some false,())):=by intro q;cases q<;>rfl
              exact hq _
          . simp at h
        . simp at h
      |_=>simp at h
variable {Γ:Env} {S:TS} {t:gu} {x y:gg}
theorem zq3 {sh:List CK} {l m:List T} {vs ws:List Value} (ht:zg6 P 10000 t=some (true,sh)) (hq:P.eqGuardType P.depth t=false) (hl:zgp l=some vs) (hm:zgp m=some ws) (hx:zep sh vs=true) (hy:zep sh ws=true) {b:Bool} (hb:eqVs vs ws=b) :
    tBin P Γ S t .eql x y (.agg l) (.agg m)=some (.bool b)/\tBin P Γ S t .neq x y (.agg l) (.agg m)=some (.bool (!b)):=by
  have h:za7 P (rc t (.agg vs.toArray) (.agg ws.toArray))=some b:=by rw [<- hb];exact yk8 10000 ht hx hy
  have hg:∀ op,op=.eql\/op=.neq->za7 P (eqGuard op t x y (.agg vs.toArray) (.agg ws.toArray))=some ():=by
    intro op hop;rcases hop with rfl|rfl
    . show za7 P (if !(P.eqGuardType P.depth t) then pure () else _)=some ();rw [hq];rfl
    . show za7 P (if !(P.eqGuardType P.depth t) then pure () else _)=some ();rw [hq];rfl
  have he:za7 P (binOp .eql t (.agg vs.toArray) (.agg ws.toArray))=some (.bool b):=by
    show za7 P (do pure (so (<- rc t (.agg vs.toArray) (.agg ws.toArray))):Sem Value)=_;rw [zal,h];rfl
  have hn:za7 P (binOp .neq t (.agg vs.toArray) (.agg ws.toArray))=some (.bool (!b)):=by
    show za7 P (do pure (so (!(<- rc t (.agg vs.toArray) (.agg ws.toArray)))):Sem Value)=_;rw [zal,h];rfl
  constructor
  . show zot P t .eql x y _ _=_;unfold zot;rw [hl,hm];simp only;rw [zal,hg _ (.inl rfl)];show (match za7 P (binOp .eql t (.agg vs.toArray) (.agg ws.toArray)) with|some (.bool r)=>some (T.bool r)|_=>none)=_;rw [he]
  . show zot P t .neq x y _ _=_;unfold zot;rw [hl,hm];simp only;rw [zal,hg _ (.inr rfl)];show (match za7 P (binOp .neq t (.agg vs.toArray) (.agg ws.toArray)) with|some (.bool r)=>some (T.bool r)|_=>none)=_;rw [hn]
theorem zlz:∀ {a b:List T} {x y:List Value},zgp a=some x->zgp b=some y->zgp (a++b)=some (x++y)
  |[],b,x,y,h,h2=>by simp only [zgp,fi] at h;subst h;exact h2
  |t :: a,b,x,y,h,h2=>by
    unfold zgp at h;split at h
    . rename_i v r e1 e2;cases h;rw [gz];unfold zgp;rw [e1,zlz e2 h2];rfl
    . cases h
theorem z28 {k:i4}:∀ {a b:List Int},a.length=b.length->eqVs (a.map (jn k)) (b.map (jn k))=decide (a=b)
  |[],[],_=>rfl
  |x :: a,y :: b,h=>by
    rw [ja,ja,eqVs,z28 (Nat.succ.inj h)];simp only [znr,o6,Bool.decide_and]
    congr 1
  |[],_ :: _,h=>by simp at h
  |_ :: _,[],h=>by simp at h
theorem z0g {k:i4} {n:Nat} (a b:Ar n):eqVs (a.l.map (jn k)) (b.l.map (jn k))=decide (a=b):=by
  rw [z28 (by rw [a.h,b.h])];exact decide_eq_decide.2 (Ar.eq_iff.symm)
theorem z23 {k:i4}:∀ {l:List Int} {r:List CK} {vs:List Value},zep r vs=true->zep (gh l.length (.int k)++r) (l.map (jn k)++vs)=true
  |[],r,vs,h=>h
  |x :: l,r,vs,h=>by
    rw [gp,jh,ja,gz,gz,zep,z23 h];simp [ckV]
end
section
variable {k:i4} {n m:Nat} (a b:Ar n) (r xs:List T)
theorem sgT (h:n<=m):(a.l.map (fl k)++r).take m=a.l.map (fl k)++r.take (m - n):=by
  rw [pi,il (by rw [fw,a.h];exact h),fw,a.h]
theorem sgT1 (h:n<=m):(a.l.map (fl k)).take m=a.l.map (fl k):=il (by rw [fw,a.h];exact h)
theorem sgD (h:n<=m):(a.l.map (fl k)++r).drop m=r.drop (m - n):=by
  rw [mu,i7 (by rw [fw,a.h];exact h),gm,fw,a.h]
theorem sgD1 (h:n<=m):(a.l.map (fl k)).drop m=[]:=i7 (by rw [fw,a.h];exact h)
theorem sgG (h:n<=m):(a.l.map (fl k)++r)[m]?=r[m - n]?:=by
  rw [iw (by rw [fw,a.h];exact h),fw,a.h]
theorem splA:spl (a.l.map (fl k)++r) 0 (b.l.map (fl k)++xs)=b.l.map (fl k)++spl r 0 xs:=by
  unfold spl;rw [nh,nh,gm,gm,gr,jb,jb,f7,fw,b.h,<- l6];congr 3;rw [mu,i7 (by rw [fw,a.h];exact fx _),fw,a.h,Nat.sub_self];rfl
theorem yoc:spl (a.l.map (fl k)++r) 0 (b.l.map (fl k))=b.l.map (fl k)++r:=by
  have:=splA (k:=k) a b r [];rw [ic] at this;rw [this,yma]
theorem yob:spl (a.l.map (fl k)) 0 (b.l.map (fl k))=b.l.map (fl k):=arSpl a b
theorem splS (h:n<=m):spl (a.l.map (fl k)++r) m xs=a.l.map (fl k)++spl r (m - n) xs:=by
  unfold spl;rw [sgT a r h,mu,i7 (by rw [fw,a.h];omega),fw,a.h,gm];simp only [gr];congr 4;omega
theorem z4k (v:T) (h:n<=m):(a.l.map (fl k)++r).set m v=a.l.map (fl k)++r.set (m - n) v:=by
  rw [List.set_append,zAd (by rw [fw,a.h];omega),fw,a.h]
end
theorem zos {k:i4} {n off:Nat} {L r:List T} (a:Ar n) {i:Int} (h:0<=i/\i<(n:Int)) (hL:L.drop off=a.l.map (fl k)++r:=by first|rfl | (simp (disch:=decide) only [gr,ic,f7,gz,gm,fw,gp,jk,Ar.len,sgD,sgD1,lc,gt,i9,gb,jb];done)):L[off+i.toNat]?=some (fl k (gx a.l i)):=by
  rw [<- lj,hL,gq (by rw [fw,a.h];omega),lr,arIx a h];rfl
theorem zrn {k:i4} {n:Nat} {L r:List T} (a:Ar n) {i:Int} (h:0<=i/\i<(n:Int)) (hL:L=a.l.map (fl k)++r:=by first|rfl | (simp (disch:=decide) only [gr,ic,f7,gz,gm,fw,gp,jk,Ar.len,sgD,sgD1,lc,gt,i9,gb,jb];done)):L[i.toNat]?=some (fl k (gx a.l i)):=by
  have:=zos (off:=0) (L:=L) a h (by rw [gt];exact hL)
  rwa [jb] at this
theorem setAt {k:i4} {n off:Nat} {L L2 p r:List T} (a:Ar n) {i:Int} (v:Int) (h:0<=i/\i<(n:Int)) (hL:L=p++(a.l.map (fl k)++r):=by first|rfl | (simp (disch:=decide) only [gr,ic,f7,gz,gm,fw,gp,jk,Ar.len,sgD,sgD1,lc,gt,i9,gb,jb];done)) (hp:p.length=off:=by first|rfl | (simp (disch:=decide) only [gr,ic,f7,gz,gm,fw,gp,jk,Ar.len,sgD,sgD1,lc,gt,i9,gb,jb];done)) (h2:L2=p++((a.set i v).l.map (fl k)++r):=by first|rfl | (simp (disch:=decide) only [gr,ic,f7,gz,gm,fw,gp,jk,Ar.len,sgD,sgD1,lc,gt,i9,gb,jb];done)):spl L (off+i.toNat) [fl k v]=L2:=by
  subst hL h2;have hs:=ypn (k:=k) a v h;unfold spl at hs ⊢;have hi:i.toNat+1<=n:=by omega
  rw [<- hs];simp only [gp,jk,jb];rw [pi,il (show p.length<=off+i.toNat by omega),show off+i.toNat - p.length=i.toNat by omega,ke (by rw [fw,a.h];omega)];rw [mu,i7 (show p.length<=off+i.toNat+1 by omega),show off+i.toNat+1 - p.length=i.toNat+1 by omega,gm,qp (by rw [fw,a.h];omega)];simp only [gr]
theorem yb7 {k:i4} {n:Nat} {L L2 r:List T} (a:Ar n) {i:Int} (v:Int) (h:0<=i/\i<(n:Int)) (hL:L=a.l.map (fl k)++r:=by first|rfl | (simp (disch:=decide) only [gr,ic,f7,gz,gm,fw,gp,jk,Ar.len,sgD,sgD1,lc,gt,i9,gb,jb];done)) (h2:L2=(a.set i v).l.map (fl k)++r:=by first|rfl | (simp (disch:=decide) only [gr,ic,f7,gz,gm,fw,gp,jk,Ar.len,sgD,sgD1,lc,gt,i9,gb,jb];done)):spl L i.toNat [fl k v]=L2:=by
  have:=setAt (off:=0) (p:=[]) (L:=L) (L2:=L2) a v h hL rfl h2
  rwa [jb] at this
/-! bits of integers -/
def iAnd (k:i4) (a b:Int):Int:=k.wrap (jd k.bits a &&& jd k.bits b).toNat
def iOr (k:i4) (a b:Int):Int:=k.wrap (jd k.bits a ||| jd k.bits b).toNat
def iXor (k:i4) (a b:Int):Int:=k.wrap (jd k.bits a ^^^ jd k.bits b).toNat
def zhy (k:i4) (a b:Int):Int:=k.wrap (jd k.bits a &&& ~~~ jd k.bits b).toNat
def iShl (k:i4) (a b:Int):Int:=k.wrap (a*2 ^ (min b.toNat k.bits))
def iShr (k:i4) (a b:Int):Int:=a.fdiv (2 ^ (min b.toNat k.bits))
theorem yjv {k:i4} {a b:Int}:zbq .and k k a b=some (.int k (iAnd k a b)):=yo7
theorem yo2 {k:i4} {a b:Int}:zbq .or k k a b=some (.int k (iOr k a b)):=ib_or
theorem yju {k:i4} {a b:Int}:zbq .xor k k a b=some (.int k (iXor k a b)):=yo4
theorem yee {k:i4} {a b:Int}:zbq .andNot k k a b=some (.int k (zhy k a b)):=by simp [zbq,zhy]
theorem yo1 {k k':i4} {a b:Int} (h:0<=b):zbq .shl k k' a b=some (.int k (iShl k a b)):=yo6 h
theorem zxz {k k':i4} {a b:Int} (h:0<=b):zbq .shr k k' a b=some (.int k (iShr k a b)):=yo5 h
theorem zly {t:T} {l:List T} {v:Value} {r:List Value} (h:ygq t=some v) (k:zgp l=some r):zgp (t :: l)=some (v :: r):=by
  unfold zgp;rw [h,k]
theorem zqj {c:CK} {v:Value} {r:List CK} {vs:List Value} (h:ckV c v=true) (k:zep r vs=true):zep (c :: r) (v :: vs)=true:=by
  rw [zep,h,k];rfl
theorem z8y (k:i4) (n:Int):ckV (.int k) (.int k n)=true:=by simp [ckV]
theorem z5i {k:i4} {n:Nat} (a:Ar n) {r:List CK} {vs:List Value} (h:zep r vs=true):zep (gh n (.int k)++r) (a.l.map (jn k)++vs)=true:=by
  have:=z23 (k:=k) (l:=a.l) h
  rwa [a.h] at this
theorem z8d {k:i4} {n:Nat} (a:Ar n):zep (gh n (.int k)) (a.l.map (jn k))=true:=by
  have:=z5i (k:=k) a (r:=[]) (vs:=[]) rfl
  rwa [ic,ic] at this
theorem z5l {k:i4} {n:Nat} (a b:Ar n) (x y:List Value):eqVs (a.l.map (jn k)++x) (b.l.map (jn k)++y)=(decide (a=b) && eqVs x y):=by
  rw [zl7 (by rw [fw,fw,a.h,b.h]),z0g]
theorem ycq {α:Type} {f:α->T} (z:α):∀ n:Nat,rep n (f z).cells=vecC f (gh n z)
  |0=>rfl
  |n+1=>by
    have:=ycq (f:=f) z n;unfold rep vecC at this ⊢;rw [jh,ir,this,jh,ja,jg]
theorem yeo {k:i4} {m:Nat} (l:List Int):(T.agg (l.map (fl k))).ids m=true:=zgq l
theorem zi4:∀ (a b:List T),rq (a++b)=(rq a && rq b)
  |[],b=>by simp [rq]
  |t :: a,b=>by rw [gz,rq,rq,zi4 a b,Bool.and_assoc]
theorem yf1 (l:List T):l++[]=l:=ic l
theorem z31 (a b c:List T):a++b++c=a++(b++c):=gr a b c
theorem zuz (a b:List T):(a++b).length=a.length+b.length:=f7
theorem z0r (a b:List T) (p:T->Bool):(a++b).all p=(a.all p && b.all p):=List.all_append
theorem z01 (n:Nat):([]:List T).take n=[]:=List.take_nil
theorem z3c (n:Nat):([]:List T).drop n=[]:=List.drop_nil
noncomputable def LL:List Nat:=[3,4,5,6,7,8,9,10,11,12,13,14,15,16,17,18,19,20,21,22,23,24,25,26,27,28,29,30,31,32,33,34,35,36,37,38,39,40,41,42,43,44,45,46,47,48,49,50,51,52,53,54,55,56,57,58,59,60,61,62,63,64,65,66,67,68,69,70,71,72,73,74,75,76,77,78,79,80,81,82,83,84,85,86,87,88,89,90,91,92,93,94,95,96,97]
def GG:List Nat:=[]
noncomputable def EE (ax:Axs):Env:=zhz Try.prog LL ax
theorem zfr (ax:Axs):zeg Try.prog (EE ax):=ye7 _ _ _
theorem z79:znp Try.prog GG LL=true:=by kernel_rfl
theorem yhh:Try.prog.follows .mixedOrders=true:=by kernel_rfl
noncomputable def aggO:Option (List T)->Option T
  |some l=>some (.agg l)
  |none=>none
theorem fn5 (ax:Axs):(EE ax).fn.at 5=some Try.f5:=by kernel_rfl
theorem fn8 (ax:Axs):(EE ax).fn.at 8=some Try.f8:=by kernel_rfl
theorem fn9 (ax:Axs):(EE ax).fn.at 9=some Try.f9:=by kernel_rfl
theorem fn10 (ax:Axs):(EE ax).fn.at 10=some Try.f10:=by kernel_rfl
theorem fn11 (ax:Axs):(EE ax).fn.at 11=some Try.f11:=by kernel_rfl
theorem fn12 (ax:Axs):(EE ax).fn.at 12=some Try.f12:=by kernel_rfl
theorem fn13 (ax:Axs):(EE ax).fn.at 13=some Try.f13:=by kernel_rfl
theorem fn14 (ax:Axs):(EE ax).fn.at 14=some Try.f14:=by kernel_rfl
theorem fn15 (ax:Axs):(EE ax).fn.at 15=some Try.f15:=by kernel_rfl
theorem fn16 (ax:Axs):(EE ax).fn.at 16=some Try.f16:=by kernel_rfl
theorem fn18 (ax:Axs):(EE ax).fn.at 18=some Try.f18:=by kernel_rfl
theorem fn19 (ax:Axs):(EE ax).fn.at 19=some Try.f19:=by kernel_rfl
theorem fn20 (ax:Axs):(EE ax).fn.at 20=some Try.f20:=by kernel_rfl
theorem fn21 (ax:Axs):(EE ax).fn.at 21=some Try.f21:=by kernel_rfl
theorem fn22 (ax:Axs):(EE ax).fn.at 22=some Try.f22:=by kernel_rfl
theorem fn23 (ax:Axs):(EE ax).fn.at 23=some Try.f23:=by kernel_rfl
theorem fn24 (ax:Axs):(EE ax).fn.at 24=some Try.f24:=by kernel_rfl
theorem fn26 (ax:Axs):(EE ax).fn.at 26=some Try.f26:=by kernel_rfl
theorem fn27 (ax:Axs):(EE ax).fn.at 27=some Try.f27:=by kernel_rfl
theorem fn28 (ax:Axs):(EE ax).fn.at 28=some Try.f28:=by kernel_rfl
theorem fn29 (ax:Axs):(EE ax).fn.at 29=some Try.f29:=by kernel_rfl
theorem fn30 (ax:Axs):(EE ax).fn.at 30=some Try.f30:=by kernel_rfl
theorem fn31 (ax:Axs):(EE ax).fn.at 31=some Try.f31:=by kernel_rfl
theorem fn32 (ax:Axs):(EE ax).fn.at 32=some Try.f32:=by kernel_rfl
theorem fn33 (ax:Axs):(EE ax).fn.at 33=some Try.f33:=by kernel_rfl
theorem fn34 (ax:Axs):(EE ax).fn.at 34=some Try.f34:=by kernel_rfl
theorem fn35 (ax:Axs):(EE ax).fn.at 35=some Try.f35:=by kernel_rfl
theorem fn36 (ax:Axs):(EE ax).fn.at 36=some Try.f36:=by kernel_rfl
theorem fn37 (ax:Axs):(EE ax).fn.at 37=some Try.f37:=by kernel_rfl
theorem fn38 (ax:Axs):(EE ax).fn.at 38=some Try.f38:=by kernel_rfl
theorem fn39 (ax:Axs):(EE ax).fn.at 39=some Try.f39:=by kernel_rfl
theorem fn40 (ax:Axs):(EE ax).fn.at 40=some Try.f40:=by kernel_rfl
theorem fn41 (ax:Axs):(EE ax).fn.at 41=some Try.f41:=by kernel_rfl
theorem fn42 (ax:Axs):(EE ax).fn.at 42=some Try.f42:=by kernel_rfl
theorem fn43 (ax:Axs):(EE ax).fn.at 43=some Try.f43:=by kernel_rfl
theorem fn44 (ax:Axs):(EE ax).fn.at 44=some Try.f44:=by kernel_rfl
theorem fn45 (ax:Axs):(EE ax).fn.at 45=some Try.f45:=by kernel_rfl
theorem fn46 (ax:Axs):(EE ax).fn.at 46=some Try.f46:=by kernel_rfl
theorem fn47 (ax:Axs):(EE ax).fn.at 47=some Try.f47:=by kernel_rfl
theorem fn48 (ax:Axs):(EE ax).fn.at 48=some Try.f48:=by kernel_rfl
theorem fn50 (ax:Axs):(EE ax).fn.at 50=some Try.f50:=by kernel_rfl
theorem fn51 (ax:Axs):(EE ax).fn.at 51=some Try.f51:=by kernel_rfl
theorem fn52 (ax:Axs):(EE ax).fn.at 52=some Try.f52:=by kernel_rfl
theorem fn53 (ax:Axs):(EE ax).fn.at 53=some Try.f53:=by kernel_rfl
theorem fn54 (ax:Axs):(EE ax).fn.at 54=some Try.f54:=by kernel_rfl
theorem fn55 (ax:Axs):(EE ax).fn.at 55=some Try.f55:=by kernel_rfl
theorem fn56 (ax:Axs):(EE ax).fn.at 56=some Try.f56:=by kernel_rfl
theorem fn57 (ax:Axs):(EE ax).fn.at 57=some Try.f57:=by kernel_rfl
theorem fn58 (ax:Axs):(EE ax).fn.at 58=some Try.f58:=by kernel_rfl
theorem fn59 (ax:Axs):(EE ax).fn.at 59=some Try.f59:=by kernel_rfl
theorem fn60 (ax:Axs):(EE ax).fn.at 60=some Try.f60:=by kernel_rfl
theorem fn61 (ax:Axs):(EE ax).fn.at 61=some Try.f61:=by kernel_rfl
theorem fn62 (ax:Axs):(EE ax).fn.at 62=some Try.f62:=by kernel_rfl
theorem fn63 (ax:Axs):(EE ax).fn.at 63=some Try.f63:=by kernel_rfl
theorem fn64 (ax:Axs):(EE ax).fn.at 64=some Try.f64:=by kernel_rfl
theorem fn65 (ax:Axs):(EE ax).fn.at 65=some Try.f65:=by kernel_rfl
theorem fn67 (ax:Axs):(EE ax).fn.at 67=some Try.f67:=by kernel_rfl
theorem fn68 (ax:Axs):(EE ax).fn.at 68=some Try.f68:=by kernel_rfl
theorem fn69 (ax:Axs):(EE ax).fn.at 69=some Try.f69:=by kernel_rfl
theorem fn70 (ax:Axs):(EE ax).fn.at 70=some Try.f70:=by kernel_rfl
theorem fn72 (ax:Axs):(EE ax).fn.at 72=some Try.f72:=by kernel_rfl
theorem fn73 (ax:Axs):(EE ax).fn.at 73=some Try.f73:=by kernel_rfl
theorem fn74 (ax:Axs):(EE ax).fn.at 74=some Try.f74:=by kernel_rfl
theorem fn75 (ax:Axs):(EE ax).fn.at 75=some Try.f75:=by kernel_rfl
theorem fn76 (ax:Axs):(EE ax).fn.at 76=some Try.f76:=by kernel_rfl
theorem fn77 (ax:Axs):(EE ax).fn.at 77=some Try.f77:=by kernel_rfl
theorem fn78 (ax:Axs):(EE ax).fn.at 78=some Try.f78:=by kernel_rfl
theorem fn79 (ax:Axs):(EE ax).fn.at 79=some Try.f79:=by kernel_rfl
theorem fn80 (ax:Axs):(EE ax).fn.at 80=some Try.f80:=by kernel_rfl
theorem fn81 (ax:Axs):(EE ax).fn.at 81=some Try.f81:=by kernel_rfl
theorem fn82 (ax:Axs):(EE ax).fn.at 82=some Try.f82:=by kernel_rfl
theorem fn83 (ax:Axs):(EE ax).fn.at 83=some Try.f83:=by kernel_rfl
theorem fn84 (ax:Axs):(EE ax).fn.at 84=some Try.f84:=by kernel_rfl
theorem fn85 (ax:Axs):(EE ax).fn.at 85=some Try.f85:=by kernel_rfl
theorem fn86 (ax:Axs):(EE ax).fn.at 86=some Try.f86:=by kernel_rfl
theorem fn87 (ax:Axs):(EE ax).fn.at 87=some Try.f87:=by kernel_rfl
theorem fn88 (ax:Axs):(EE ax).fn.at 88=some Try.f88:=by kernel_rfl
theorem fn89 (ax:Axs):(EE ax).fn.at 89=some Try.f89:=by kernel_rfl
theorem fn90 (ax:Axs):(EE ax).fn.at 90=some Try.f90:=by kernel_rfl
theorem fn91 (ax:Axs):(EE ax).fn.at 91=some Try.f91:=by kernel_rfl
theorem fn92 (ax:Axs):(EE ax).fn.at 92=some Try.f92:=by kernel_rfl
theorem fn95 (ax:Axs):(EE ax).fn.at 95=some Try.f95:=by kernel_rfl
theorem fn96 (ax:Axs):(EE ax).fn.at 96=some Try.f96:=by kernel_rfl
theorem ti3 (ax:Axs):(EE ax).ti.at 3=some ⟨.int .i64,1,8,[.int .i64 0]⟩:=by kernel_rfl
theorem ti4 (ax:Axs):(EE ax).ti.at 4=some ⟨.bool,1,1,[.bool false]⟩:=by kernel_rfl
theorem ti5 (ax:Axs):(EE ax).ti.at 5=some ⟨.int .u8,1,1,[.int .u8 0]⟩:=by kernel_rfl
theorem ti9 (ax:Axs):(EE ax).ti.at 9=some ⟨.string,1,16,[.string ⟨#[]⟩]⟩:=by kernel_rfl
theorem ti22 (ax:Axs):(EE ax).ti.at 22=some ⟨.slice 93,1,24,[.slice none 0 0]⟩:=by kernel_rfl
theorem ti23 (ax:Axs):(EE ax).ti.at 23=some ⟨.slice 95,1,24,[.slice none 0 0]⟩:=by kernel_rfl
theorem ti24 (ax:Axs):(EE ax).ti.at 24=some ⟨.slice 98,1,24,[.slice none 0 0]⟩:=by kernel_rfl
theorem yk7 (ax:Axs) (S:TS) (b off N:Nat):zao (EE ax) S 26 0 (.ptr b off N)=bif S.has b N then some (.ptr b (off+0) N) else none:=by kernel_rfl
theorem yk6 (ax:Axs) (S:TS) (b off N:Nat):zao (EE ax) S 26 1 (.ptr b off N)=bif S.has b N then some (.ptr b (off+1) N) else none:=by kernel_rfl
theorem yk5 (ax:Axs) (S:TS) (b off N:Nat):zao (EE ax) S 26 2 (.ptr b off N)=bif S.has b N then some (.ptr b (off+2) N) else none:=by kernel_rfl
noncomputable def fs26:Array Field:=match Try.prog.underlying 26 with|some (.struct fs)=>fs|_=>#[]
theorem ti26 (ax:Axs):(EE ax).ti.at 26=some ⟨.struct fs26,3,72,[.slice none 0 0,.slice none 0 0,.slice none 0 0]⟩:=by kernel_rfl
theorem ti28 (ax:Axs):(EE ax).ti.at 28=some ⟨.slice 59,1,24,[.slice none 0 0]⟩:=by kernel_rfl
theorem sr28 (ax:Axs):srcT (EE ax) 28=true:=by kernel_rfl
theorem yk4 (ax:Axs) (S:TS) (b off N:Nat):zao (EE ax) S 30 0 (.ptr b off N)=bif S.has b N then some (.ptr b (off+0) N) else none:=by kernel_rfl
theorem ykm (ax:Axs) (S:TS) (l:List T):zao (EE ax) S 30 0 (.cp l)=some (.cp (l.drop 0)):=by kernel_rfl
theorem yk3 (ax:Axs) (S:TS) (b off N:Nat):zao (EE ax) S 30 1 (.ptr b off N)=bif S.has b N then some (.ptr b (off+1) N) else none:=by kernel_rfl
theorem zqm (ax:Axs) (S:TS) (l:List T):zao (EE ax) S 30 1 (.cp l)=some (.cp (l.drop 1)):=by kernel_rfl
theorem yk2 (ax:Axs) (S:TS) (b off N:Nat):zao (EE ax) S 30 2 (.ptr b off N)=bif S.has b N then some (.ptr b (off+2) N) else none:=by kernel_rfl
theorem zvh (ax:Axs) (S:TS) (l:List T):zao (EE ax) S 30 2 (.cp l)=some (.cp (l.drop 2)):=by kernel_rfl
noncomputable def fs30:Array Field:=match Try.prog.underlying 30 with|some (.struct fs)=>fs|_=>#[]
theorem bt30 (ax:Axs) (ρ:gg->T) (parts:List (Nat×gg)):zkb (EE ax) ρ 30 parts=aggO (zb4 [.int .i64 0,.int .i64 0,.int .i64 0] (zbh (zfw (EE ax) fs30) ρ parts)):=by kernel_rfl
theorem ti30 (ax:Axs):(EE ax).ti.at 30=some ⟨.struct fs30,3,24,[.int .i64 0,.int .i64 0,.int .i64 0]⟩:=by kernel_rfl
theorem yjn (ax:Axs):zfw (EE ax) fs30 0=some (0,1):=by kernel_rfl
theorem yjm (ax:Axs):zfw (EE ax) fs30 1=some (1,1):=by kernel_rfl
theorem yjl (ax:Axs):zfw (EE ax) fs30 2=some (2,1):=by kernel_rfl
theorem ti40 (ax:Axs):(EE ax).ti.at 40=some ⟨.slice 30,1,24,[.slice none 0 0]⟩:=by kernel_rfl
theorem sr40 (ax:Axs):srcT (EE ax) 40=true:=by kernel_rfl
theorem tz43 (ax:Axs):(EE ax).ti.at 43=some ⟨.array 10 3,10,80,zVs 10 .i64⟩:=by kernel_rfl
theorem aq43 (ax:Axs) (a b:Ar 10):(∀ (S:TS) (x y:gg),tBin Try.prog (EE ax) S 43 .eql x y (.agg (a.l.map (fl .i64))) (.agg (b.l.map (fl .i64)))=some (.bool (decide (a=b))))/\(∀ (S:TS) (x y:gg),tBin Try.prog (EE ax) S 43 .neq x y (.agg (a.l.map (fl .i64))) (.agg (b.l.map (fl .i64)))=some (.bool (!(decide (a=b))))):=⟨fun _ _ _=>(ybn (e:=3) (by kernel_rfl) (by kernel_rfl) (by kernel_rfl) (by kernel_rfl) a b).1,fun _ _ _=>(ybn (e:=3) (by kernel_rfl) (by kernel_rfl) (by kernel_rfl) (by kernel_rfl) a b).2⟩
theorem bz43 (ax:Axs):∀ (ρ:gg->T),zkb (EE ax) ρ 43 []=some (.agg ((zA 10).l.map (fl .i64))):=fun _=>rfl
theorem ti48 (ax:Axs):(EE ax).ti.at 48=some ⟨.slice 3,1,24,[.slice none 0 0]⟩:=by kernel_rfl
theorem sr48 (ax:Axs):srcT (EE ax) 48=true:=by kernel_rfl
def zS56:List Value:=[.int .i64 0,.int .i64 0,.int .i64 0,.int .i64 0,.int .i64 0,.int .i64 0,.int .i64 0,.int .i64 0,.int .i64 0,.int .i64 0,.int .i64 0,.int .i64 0,.int .i64 0,.int .i64 0,.int .i64 0,.int .i64 0,.int .i64 0,.int .i64 0,.int .i64 0,.int .i64 0]
theorem yis:zgn zS56=some ((zA 10).l.map (fl .i64)++((zA 10).l.map (fl .i64))):=rfl
theorem z55:zS56.length=20:=rfl
theorem yk1 (ax:Axs) (S:TS) (b off N:Nat):zao (EE ax) S 56 0 (.ptr b off N)=bif S.has b N then some (.ptr b (off+0) N) else none:=by kernel_rfl
theorem ykl (ax:Axs) (S:TS) (l:List T):zao (EE ax) S 56 0 (.cp l)=some (.cp (l.drop 0)):=by kernel_rfl
theorem yk0 (ax:Axs) (S:TS) (b off N:Nat):zao (EE ax) S 56 1 (.ptr b off N)=bif S.has b N then some (.ptr b (off+10) N) else none:=by kernel_rfl
theorem ykk (ax:Axs) (S:TS) (l:List T):zao (EE ax) S 56 1 (.cp l)=some (.cp (l.drop 10)):=by kernel_rfl
noncomputable def fs56:Array Field:=match Try.prog.underlying 56 with|some (.struct fs)=>fs|_=>#[]
theorem bt56 (ax:Axs) (ρ:gg->T) (parts:List (Nat×gg)):zkb (EE ax) ρ 56 parts=aggO (zb4 zS56 (zbh (zfw (EE ax) fs56) ρ parts)):=by kernel_rfl
theorem ti56 (ax:Axs):(EE ax).ti.at 56=some ⟨.struct fs56,20,160,zS56⟩:=by kernel_rfl
theorem yjk (ax:Axs):zfw (EE ax) fs56 0=some (0,10):=by kernel_rfl
theorem yjj (ax:Axs):zfw (EE ax) fs56 1=some (10,10):=by kernel_rfl
theorem ti57 (ax:Axs):(EE ax).ti.at 57=some ⟨.slice 87,1,24,[.slice none 0 0]⟩:=by kernel_rfl
def zS59:List Value:=[.int .i64 0,.int .i64 0,.int .i64 0,.int .i64 0,.int .i64 0,.int .i64 0,.int .i64 0,.int .i64 0,.int .i64 0,.int .i64 0,.int .i64 0,.int .i64 0,.int .i64 0,.int .i64 0,.int .i64 0,.int .i64 0,.int .i64 0,.int .i64 0,.int .i64 0,.int .i64 0,.int .i64 0,.int .i64 0,.slice none 0 0]
theorem ya2:zgn zS59=some (fl .i64 0 :: ((zA 10).l.map (fl .i64)++((zA 10).l.map (fl .i64)++[fl .i64 0,T.nils]))):=rfl
theorem zy1:zS59.length=23:=rfl
theorem ykz (ax:Axs) (S:TS) (b off N:Nat):zao (EE ax) S 59 0 (.ptr b off N)=bif S.has b N then some (.ptr b (off+0) N) else none:=by kernel_rfl
theorem ykj (ax:Axs) (S:TS) (l:List T):zao (EE ax) S 59 0 (.cp l)=some (.cp (l.drop 0)):=by kernel_rfl
theorem yky (ax:Axs) (S:TS) (b off N:Nat):zao (EE ax) S 59 1 (.ptr b off N)=bif S.has b N then some (.ptr b (off+1) N) else none:=by kernel_rfl
theorem yki (ax:Axs) (S:TS) (l:List T):zao (EE ax) S 59 1 (.cp l)=some (.cp (l.drop 1)):=by kernel_rfl
theorem ykx (ax:Axs) (S:TS) (b off N:Nat):zao (EE ax) S 59 2 (.ptr b off N)=bif S.has b N then some (.ptr b (off+21) N) else none:=by kernel_rfl
theorem ykw (ax:Axs) (S:TS) (b off N:Nat):zao (EE ax) S 59 3 (.ptr b off N)=bif S.has b N then some (.ptr b (off+22) N) else none:=by kernel_rfl
theorem ykh (ax:Axs) (S:TS) (l:List T):zao (EE ax) S 59 3 (.cp l)=some (.cp (l.drop 22)):=by kernel_rfl
noncomputable def fs59:Array Field:=match Try.prog.underlying 59 with|some (.struct fs)=>fs|_=>#[]
theorem bt59 (ax:Axs) (ρ:gg->T) (parts:List (Nat×gg)):zkb (EE ax) ρ 59 parts=aggO (zb4 zS59 (zbh (zfw (EE ax) fs59) ρ parts)):=by kernel_rfl
theorem ti59 (ax:Axs):(EE ax).ti.at 59=some ⟨.struct fs59,23,200,zS59⟩:=by kernel_rfl
theorem yom (ax:Axs):zfw (EE ax) fs59 0=some (0,1):=by kernel_rfl
theorem yol (ax:Axs):zfw (EE ax) fs59 1=some (1,20):=by kernel_rfl
theorem yji (ax:Axs):zfw (EE ax) fs59 2=some (21,1):=by kernel_rfl
theorem ti63 (ax:Axs):(EE ax).ti.at 63=some ⟨.slice 48,1,24,[.slice none 0 0]⟩:=by kernel_rfl
noncomputable def fd74:TypeDesc:=match Try.prog.underlying 74 with|some d=>d|none=>.bool
theorem ti74 (ax:Axs):(EE ax).ti.at 74=some ⟨fd74,1,8,[.nilFunc]⟩:=by kernel_rfl
theorem ag74:aggT fd74=false:=by kernel_rfl
theorem ti75 (ax:Axs):(EE ax).ti.at 75=some ⟨.slice 56,1,24,[.slice none 0 0]⟩:=by kernel_rfl
theorem sr75 (ax:Axs):srcT (EE ax) 75=true:=by kernel_rfl
def zS84:List Value:=[.int .i64 0,.int .i64 0,.int .i64 0,.int .i64 0,.int .i64 0,.int .i64 0,.int .i64 0,.int .i64 0,.int .i64 0,.int .i64 0,.int .i64 0,.int .i64 0,.int .i64 0,.int .i64 0,.int .i64 0,.int .i64 0,.int .i64 0,.int .i64 0,.int .i64 0,.int .i64 0]
theorem yir:zgn zS84=some ((zA 10).l.map (fl .i64)++((zA 10).l.map (fl .i64))):=rfl
theorem z54:zS84.length=20:=rfl
theorem ykv (ax:Axs) (S:TS) (b off N:Nat):zao (EE ax) S 84 0 (.ptr b off N)=bif S.has b N then some (.ptr b (off+0) N) else none:=by kernel_rfl
theorem yku (ax:Axs) (S:TS) (b off N:Nat):zao (EE ax) S 84 1 (.ptr b off N)=bif S.has b N then some (.ptr b (off+10) N) else none:=by kernel_rfl
noncomputable def fs84:Array Field:=match Try.prog.underlying 84 with|some (.struct fs)=>fs|_=>#[]
theorem bt84 (ax:Axs) (ρ:gg->T) (parts:List (Nat×gg)):zkb (EE ax) ρ 84 parts=aggO (zb4 zS84 (zbh (zfw (EE ax) fs84) ρ parts)):=by kernel_rfl
theorem ti84 (ax:Axs):(EE ax).ti.at 84=some ⟨.struct fs84,20,160,zS84⟩:=by kernel_rfl
theorem yjh (ax:Axs):zfw (EE ax) fs84 0=some (0,10):=by kernel_rfl
theorem yjg (ax:Axs):zfw (EE ax) fs84 1=some (10,10):=by kernel_rfl
def zS86:List Value:=[.int .i64 0,.int .i64 0,.int .i64 0,.int .i64 0,.int .i64 0,.int .i64 0,.int .i64 0,.int .i64 0,.int .i64 0,.int .i64 0,.int .i64 0,.int .i64 0,.int .i64 0,.int .i64 0,.int .i64 0,.int .i64 0,.int .i64 0,.int .i64 0,.int .i64 0,.int .i64 0,.int .i64 0]
theorem yiq:zgn zS86=some (fl .i64 0 :: ((zA 10).l.map (fl .i64)++((zA 10).l.map (fl .i64)))):=rfl
theorem z53:zS86.length=21:=rfl
theorem ykt (ax:Axs) (S:TS) (b off N:Nat):zao (EE ax) S 86 0 (.ptr b off N)=bif S.has b N then some (.ptr b (off+0) N) else none:=by kernel_rfl
theorem yks (ax:Axs) (S:TS) (b off N:Nat):zao (EE ax) S 86 1 (.ptr b off N)=bif S.has b N then some (.ptr b (off+1) N) else none:=by kernel_rfl
noncomputable def fs86:Array Field:=match Try.prog.underlying 86 with|some (.struct fs)=>fs|_=>#[]
theorem bt86 (ax:Axs) (ρ:gg->T) (parts:List (Nat×gg)):zkb (EE ax) ρ 86 parts=aggO (zb4 zS86 (zbh (zfw (EE ax) fs86) ρ parts)):=by kernel_rfl
theorem ti86 (ax:Axs):(EE ax).ti.at 86=some ⟨.struct fs86,21,168,zS86⟩:=by kernel_rfl
theorem yok (ax:Axs):zfw (EE ax) fs86 0=some (0,1):=by kernel_rfl
theorem yoj (ax:Axs):zfw (EE ax) fs86 1=some (1,20):=by kernel_rfl
theorem ti87 (ax:Axs):(EE ax).ti.at 87=some ⟨.slice 86,1,24,[.slice none 0 0]⟩:=by kernel_rfl
theorem ti88 (ax:Axs):(EE ax).ti.at 88=some ⟨.slice 9,1,24,[.slice none 0 0]⟩:=by kernel_rfl
theorem sr88 (ax:Axs):srcT (EE ax) 88=true:=by kernel_rfl
theorem ykg (ax:Axs) (S:TS) (l:List T):zao (EE ax) S 93 0 (.cp l)=some (.cp (l.drop 0)):=by kernel_rfl
theorem ykr (ax:Axs) (S:TS) (b off N:Nat):zao (EE ax) S 93 2 (.ptr b off N)=bif S.has b N then some (.ptr b (off+2) N) else none:=by kernel_rfl
theorem ykq (ax:Axs) (S:TS) (b off N:Nat):zao (EE ax) S 93 3 (.ptr b off N)=bif S.has b N then some (.ptr b (off+3) N) else none:=by kernel_rfl
noncomputable def fs93:Array Field:=match Try.prog.underlying 93 with|some (.struct fs)=>fs|_=>#[]
theorem ti93 (ax:Axs):(EE ax).ti.at 93=some ⟨.struct fs93,4,40,[.string ⟨#[]⟩,.bool false,.int .i64 0,.int .i64 0]⟩:=by kernel_rfl
theorem ykp (ax:Axs) (S:TS) (b off N:Nat):zao (EE ax) S 95 0 (.ptr b off N)=bif S.has b N then some (.ptr b (off+0) N) else none:=by kernel_rfl
theorem yko (ax:Axs) (S:TS) (b off N:Nat):zao (EE ax) S 95 1 (.ptr b off N)=bif S.has b N then some (.ptr b (off+1) N) else none:=by kernel_rfl
theorem ykn (ax:Axs) (S:TS) (b off N:Nat):zao (EE ax) S 95 2 (.ptr b off N)=bif S.has b N then some (.ptr b (off+2) N) else none:=by kernel_rfl
noncomputable def fs95:Array Field:=match Try.prog.underlying 95 with|some (.struct fs)=>fs|_=>#[]
theorem ti95 (ax:Axs):(EE ax).ti.at 95=some ⟨.struct fs95,3,24,[.int .i64 0,.int .i64 0,.int .i64 0]⟩:=by kernel_rfl
theorem ykf (ax:Axs) (S:TS) (l:List T):zao (EE ax) S 98 0 (.cp l)=some (.cp (l.drop 0)):=by kernel_rfl
theorem yke (ax:Axs) (S:TS) (l:List T):zao (EE ax) S 98 1 (.cp l)=some (.cp (l.drop 1)):=by kernel_rfl
noncomputable def fs98:Array Field:=match Try.prog.underlying 98 with|some (.struct fs)=>fs|_=>#[]
theorem ti98 (ax:Axs):(EE ax).ti.at 98=some ⟨.struct fs98,2,24,[.string ⟨#[]⟩,.int .i64 0]⟩:=by kernel_rfl
theorem yn3 (ax:Axs):(EE ax).ti.at 101=some ⟨.int .u64,1,8,[.int .u64 0]⟩:=by kernel_rfl
theorem yn2 (ax:Axs):(EE ax).ti.at 115=some ⟨.int .u64,1,8,[.int .u64 0]⟩:=by kernel_rfl
theorem yn1 (ax:Axs):(EE ax).ti.at 118=some ⟨.slice 59,1,24,[.slice none 0 0]⟩:=by kernel_rfl
theorem el28 (ax:Axs):zdz (EE ax) 28=some ⟨.struct fs59,23,200,zS59⟩:=by kernel_rfl
theorem el40 (ax:Axs):zdz (EE ax) 40=some ⟨.struct fs30,3,24,[.int .i64 0,.int .i64 0,.int .i64 0]⟩:=by kernel_rfl
theorem el48 (ax:Axs):zdz (EE ax) 48=some ⟨.int .i64,1,8,[.int .i64 0]⟩:=by kernel_rfl
theorem el57 (ax:Axs):zdz (EE ax) 57=some ⟨.slice 86,1,24,[.slice none 0 0]⟩:=by kernel_rfl
theorem el63 (ax:Axs):zdz (EE ax) 63=some ⟨.slice 3,1,24,[.slice none 0 0]⟩:=by kernel_rfl
theorem el75 (ax:Axs):zdz (EE ax) 75=some ⟨.struct fs56,20,160,zS56⟩:=by kernel_rfl
theorem el87 (ax:Axs):zdz (EE ax) 87=some ⟨.struct fs86,21,168,zS86⟩:=by kernel_rfl
theorem el88 (ax:Axs):zdz (EE ax) 88=some ⟨.string,1,16,[.string ⟨#[]⟩]⟩:=by kernel_rfl
instance:Inhabited ByteArray:=⟨⟨#[]⟩⟩
theorem zcc {α:Type} {n:Nat} {f:α->T} (h:∀ x,(f x).ids n=true):∀ (l:List α),kp n (l.map f)=true
  |[]=>rfl
  |x :: l=>by simp only [ja,kp,h,zcc h l,gj]
theorem zki {α:Type} {n:Nat} {f:α->T} (h:∀ x,kp n (f x).cells=true):∀ (l:List α),kp n (vecC f l)=true
  |[]=>rfl
  |x :: l=>by
    have:=zki h l;unfold vecC at this ⊢;rw [ja,jg,zax,h,this];rfl
def ints (l:List Int):T:=.lst 1 (l.map (fl .i64))
theorem zqb {n:Nat} (l:List Int):(ints l).ids n=true:=zcc (fun _=>rfl) l
theorem z2r {n:Nat} (l:List Int):kp n (l.map (fl .i64))=true:=zcc (fun _=>rfl) l
def z5c (l:List (List Int)):T:=.lst 1 (l.map ints)
theorem z2t {n:Nat} (l:List (List Int)):(z5c l).ids n=true:=zcc (fun x=>zqb x) l
theorem zx9 {n:Nat} (l:List (List Int)):kp n (l.map ints)=true:=zcc (fun x=>zqb x) l
theorem z3s (x:List Int):(ints x).cells=[ints x]:=ge rfl rfl
theorem z16 (x:List Int):nl (ints x)=true:=ge rfl rfl
def strs (l:List ByteArray):T:=.lst 1 (l.map T.str)
theorem z7v {n:Nat} (l:List ByteArray):(strs l).ids n=true:=zcc (fun _=>rfl) l
theorem z2o {n:Nat} (l:List ByteArray):kp n (l.map T.str)=true:=zcc (fun _=>rfl) l
structure Merg where
  kind:Int
  i:Int
  k:Int
deriving Inhabited,DecidableEq
def zj5 (x:Merg):T:=.agg ([fl .i64 x.kind,fl .i64 x.i,fl .i64 x.k])
theorem yae {n:Nat} (x:Merg):kp n (zj5 x).cells=true:=by simp only [zj5,jj,qx,kp,zax,zgq,gj]
theorem zqe {n:Nat} (x:Merg):(zj5 x).ids n=true:=by simp only [zj5,qx,kp,zax,zgq,gj]
def zph (x:Merg):List Value:=[jn .i64 x.kind,jn .i64 x.i,jn .i64 x.k]
def z4j:List CK:=[CK.int .i64,CK.int .i64,CK.int .i64]
theorem zzm (x:Merg):zgp ([fl .i64 x.kind,fl .i64 x.i,fl .i64 x.k])=some (zph x):=(zly rfl (zly rfl (zly rfl rfl)))
theorem z0c (x:Merg):zep z4j (zph x)=true:=(zqj (z8y _ _) (zqj (z8y _ _) (zqj (z8y _ _) rfl)))
theorem yio (a b:Merg):a=b↔a.kind=b.kind/\a.i=b.i/\a.k=b.k:=by cases a;cases b;simp
theorem ye6 (a b:Merg):eqVs (zph a) (zph b)=decide (a=b):=by
  rw [kx];simp [zph,z5l,z0g,eqVs,znr,and_assoc,yio]
structure Pat where
  mask:Ar 10
  bits:Ar 10
deriving Inhabited,DecidableEq
def ePat (x:Pat):T:=.agg (x.mask.l.map (fl .i64)++(x.bits.l.map (fl .i64)))
theorem yem {n:Nat} (x:Pat):kp n (ePat x).cells=true:=by simp only [ePat,jj,qx,kp,zax,zgq,gj]
theorem zs7 {n:Nat} (x:Pat):(ePat x).ids n=true:=by simp only [ePat,qx,kp,zax,zgq,gj]
theorem za0 (x:Pat):(ePat x).cells.length=20:=by simp only [ePat,jj,gp,jk,zuz,fw,Ar.len]
theorem zn8 (x:Pat):(ePat x).cells.all nl=true:=by simp only [ePat,jj,jt,List.all_nil,z0r,zrl,zs3,zp2,zs0,zs1,gj]
theorem z6y (n:Nat):rep n ((zA 10).l.map (fl .i64)++((zA 10).l.map (fl .i64)))=vecC ePat (gh n (⟨zA 10,zA 10⟩:Pat)):=ycq (f:=ePat) (⟨zA 10,zA 10⟩:Pat) n
def zti (x:Pat):List Value:=x.mask.l.map (jn .i64)++(x.bits.l.map (jn .i64))
def yb2:List CK:=gh 10 (CK.int .i64)++(gh 10 (CK.int .i64))
theorem z6i (x:Pat):zgp (x.mask.l.map (fl .i64)++(x.bits.l.map (fl .i64)))=some (zti x):=(zlz (zjh _) (zjh _))
theorem z8e (x:Pat):zep yb2 (zti x)=true:=(z5i _ (z8d _))
theorem yga (a b:Pat):a=b↔a.mask=b.mask/\a.bits=b.bits:=by cases a;cases b;simp
theorem yk9 (a b:Pat):eqVs (zti a) (zti b)=decide (a=b):=by
  rw [kx];simp [zti,z5l,z0g,eqVs,znr,and_assoc,yga]
structure Alt where
  link:Int
  mod:Pat
deriving Inhabited,DecidableEq
def eAlt (x:Alt):T:=.agg (fl .i64 x.link :: (x.mod.mask.l.map (fl .i64)++(x.mod.bits.l.map (fl .i64))))
theorem yen {n:Nat} (x:Alt):kp n (eAlt x).cells=true:=by simp only [eAlt,jj,qx,kp,zax,zgq,gj]
theorem zs8 {n:Nat} (x:Alt):(eAlt x).ids n=true:=by simp only [eAlt,qx,kp,zax,zgq,gj]
theorem zds (x:Alt):(eAlt x).cells.length=21:=by simp only [eAlt,jj,gp,jk,zuz,fw,Ar.len]
def ztj (x:Alt):List Value:=jn .i64 x.link :: (x.mod.mask.l.map (jn .i64)++(x.mod.bits.l.map (jn .i64)))
def yb3:List CK:=CK.int .i64 :: (gh 10 (CK.int .i64)++(gh 10 (CK.int .i64)))
theorem z6j (x:Alt):zgp (fl .i64 x.link :: (x.mod.mask.l.map (fl .i64)++(x.mod.bits.l.map (fl .i64))))=some (ztj x):=(zly rfl (zlz (zjh _) (zjh _)))
theorem z8f (x:Alt):zep yb3 (ztj x)=true:=(zqj (z8y _ _) (z5i _ (z8d _)))
theorem ynv (a b:Alt):a=b↔a.link=b.link/\a.mod=b.mod:=by cases a;cases b;simp
theorem yla (a b:Alt):eqVs (ztj a) (ztj b)=decide (a=b):=by
  rw [kx];simp [ztj,z5l,z0g,eqVs,znr,and_assoc,yga,ynv]
def lAlt (l:List Alt):T:=.lst 21 (l.map eAlt)
theorem zs6 {n:Nat} (l:List Alt):(lAlt l).ids n=true:=zcc (fun x=>zs8 x) l
theorem z2q {n:Nat} (l:List Alt):kp n (l.map eAlt)=true:=zcc (fun x=>zs8 x) l
theorem z2n {n:Nat} (l:List Alt):kp n (vecC eAlt l)=true:=zki (fun x=>yen x) l
def za4 (l:List (List Alt)):T:=.lst 1 (l.map lAlt)
theorem zqa {n:Nat} (l:List (List Alt)):(za4 l).ids n=true:=zcc (fun x=>zs6 x) l
theorem zya {n:Nat} (l:List (List Alt)):kp n (l.map lAlt)=true:=zcc (fun x=>zs6 x) l
theorem z3r (x:List Alt):(lAlt x).cells=[lAlt x]:=ge rfl rfl
theorem z15 (x:List Alt):nl (lAlt x)=true:=ge rfl rfl
structure Rule where
  prio:Int
  mat:Pat
  step:Int
  outs:List (List Alt)
deriving Inhabited,DecidableEq
def zak (x:Rule):T:=.agg (fl .i64 x.prio :: (x.mat.mask.l.map (fl .i64)++(x.mat.bits.l.map (fl .i64)++[fl .i64 x.step,za4 x.outs])))
theorem yac {n:Nat} (x:Rule):kp n (zak x).cells=true:=by simp only [zak,jj,qx,kp,zax,zgq,zqa,gj]
theorem zqc {n:Nat} (x:Rule):(zak x).ids n=true:=by simp only [zak,qx,kp,zax,zgq,zqa,gj]
theorem zat (x:Rule):(zak x).cells.length=23:=by simp only [zak,jj,gp,jk,zuz,fw,Ar.len]
theorem zix (x:Rule):(zak x).cells.all nl=true:=by simp only [zak,jj,jt,List.all_nil,z0r,zrl,zs3,zp2,zs0,zs1,gj,za4.eq_1]
structure Node where
  name:ByteArray
  box:Bool
  rules:Int
  entries:Int
deriving Inhabited,DecidableEq
def zqp (x:Node):T:=.agg ([T.str x.name,T.bool x.box,fl .i64 x.rules,fl .i64 x.entries])
theorem yad {n:Nat} (x:Node):kp n (zqp x).cells=true:=by simp only [zqp,jj,qx,kp,zax,zgq,gj]
theorem zqd {n:Nat} (x:Node):(zqp x).ids n=true:=by simp only [zqp,qx,kp,zax,zgq,gj]
structure Link where
  frm:Int
  to:Int
  cap:Int
deriving Inhabited,DecidableEq
def zqq (x:Link):T:=.agg ([fl .i64 x.frm,fl .i64 x.to,fl .i64 x.cap])
theorem yaf {n:Nat} (x:Link):kp n (zqq x).cells=true:=by simp only [zqq,jj,qx,kp,zax,zgq,gj]
theorem zqf {n:Nat} (x:Link):(zqq x).ids n=true:=by simp only [zqq,qx,kp,zax,zgq,gj]
structure Edge where
  name:ByteArray
  node:Int
deriving Inhabited,DecidableEq
def zqr (x:Edge):T:=.agg ([T.str x.name,fl .i64 x.node])
theorem yag {n:Nat} (x:Edge):kp n (zqr x).cells=true:=by simp only [zqr,jj,qx,kp,zax,zgq,gj]
theorem zqg {n:Nat} (x:Edge):(zqr x).ids n=true:=by simp only [zqr,qx,kp,zax,zgq,gj]
def zfj (l:List Node):T:=.lst 4 (l.map zqp)
theorem zu5 {n:Nat} (l:List Node):(zfj l).ids n=true:=zcc (fun x=>zqd x) l
theorem zx6 {n:Nat} (l:List Node):kp n (l.map zqp)=true:=zcc (fun x=>zqd x) l
theorem zx1 {n:Nat} (l:List Node):kp n (vecC zqp l)=true:=zki (fun x=>yad x) l
def zfk (l:List Link):T:=.lst 3 (l.map zqq)
theorem zu6 {n:Nat} (l:List Link):(zfk l).ids n=true:=zcc (fun x=>zqf x) l
theorem zx8 {n:Nat} (l:List Link):kp n (l.map zqq)=true:=zcc (fun x=>zqf x) l
theorem zx3 {n:Nat} (l:List Link):kp n (vecC zqq l)=true:=zki (fun x=>yaf x) l
def zfl (l:List Edge):T:=.lst 2 (l.map zqr)
theorem zu7 {n:Nat} (l:List Edge):(zfl l).ids n=true:=zcc (fun x=>zqg x) l
theorem zyb {n:Nat} (l:List Edge):kp n (l.map zqr)=true:=zcc (fun x=>zqg x) l
theorem zx4 {n:Nat} (l:List Edge):kp n (vecC zqr l)=true:=zki (fun x=>yag x) l
structure Net where
  nodes:List Node
  links:List Link
  edges:List Edge
deriving Inhabited,DecidableEq
def eNet (x:Net):T:=.agg ([zfj x.nodes,zfk x.links,zfl x.edges])
theorem z7y {n:Nat} (x:Net):(eNet x).ids n=true:=by simp only [eNet,qx,kp,zax,zgq,zu5,zu6,zu7,gj]
def zad (l:List Rule):T:=.lst 23 (l.map zak)
theorem zu4 {n:Nat} (l:List Rule):(zad l).ids n=true:=zcc (fun x=>zqc x) l
theorem zx5 {n:Nat} (l:List Rule):kp n (l.map zak)=true:=zcc (fun x=>zqc x) l
theorem zx0 {n:Nat} (l:List Rule):kp n (vecC zak l)=true:=zki (fun x=>yac x) l
def znh (l:List Merg):T:=.lst 3 (l.map zj5)
theorem z2s {n:Nat} (l:List Merg):(znh l).ids n=true:=zcc (fun x=>zqe x) l
theorem zx7 {n:Nat} (l:List Merg):kp n (l.map zj5)=true:=zcc (fun x=>zqe x) l
theorem zx2 {n:Nat} (l:List Merg):kp n (vecC zj5 l)=true:=zki (fun x=>yae x) l
def lPat (l:List Pat):T:=.lst 20 (l.map ePat)
theorem z7x {n:Nat} (l:List Pat):(lPat l).ids n=true:=zcc (fun x=>zs7 x) l
theorem z2p {n:Nat} (l:List Pat):kp n (l.map ePat)=true:=zcc (fun x=>zs7 x) l
theorem z2m {n:Nat} (l:List Pat):kp n (vecC ePat l)=true:=zki (fun x=>yem x) l
theorem aq30 (ax:Axs) (a b:Merg):(∀ (S:TS) (x y:gg),tBin Try.prog (EE ax) S 30 .eql x y (.agg ([fl .i64 a.kind,fl .i64 a.i,fl .i64 a.k])) (.agg ([fl .i64 b.kind,fl .i64 b.i,fl .i64 b.k]))=some (.bool (decide (a=b))))/\(∀ (S:TS) (x y:gg),tBin Try.prog (EE ax) S 30 .neq x y (.agg ([fl .i64 a.kind,fl .i64 a.i,fl .i64 a.k])) (.agg ([fl .i64 b.kind,fl .i64 b.i,fl .i64 b.k]))=some (.bool (!(decide (a=b))))):=⟨fun _ _ _=>(zq3 (sh:=z4j) (by kernel_rfl) (by kernel_rfl) (zzm a) (zzm b) (z0c a) (z0c b) (ye6 a b)).1,fun _ _ _=>(zq3 (sh:=z4j) (by kernel_rfl) (by kernel_rfl) (zzm a) (zzm b) (z0c a) (z0c b) (ye6 a b)).2⟩
theorem aq56 (ax:Axs) (a b:Pat):(∀ (S:TS) (x y:gg),tBin Try.prog (EE ax) S 56 .eql x y (.agg (a.mask.l.map (fl .i64)++(a.bits.l.map (fl .i64)))) (.agg (b.mask.l.map (fl .i64)++(b.bits.l.map (fl .i64))))=some (.bool (decide (a=b))))/\(∀ (S:TS) (x y:gg),tBin Try.prog (EE ax) S 56 .neq x y (.agg (a.mask.l.map (fl .i64)++(a.bits.l.map (fl .i64)))) (.agg (b.mask.l.map (fl .i64)++(b.bits.l.map (fl .i64))))=some (.bool (!(decide (a=b))))):=⟨fun _ _ _=>(zq3 (sh:=yb2) (by kernel_rfl) (by kernel_rfl) (z6i a) (z6i b) (z8e a) (z8e b) (yk9 a b)).1,fun _ _ _=>(zq3 (sh:=yb2) (by kernel_rfl) (by kernel_rfl) (z6i a) (z6i b) (z8e a) (z8e b) (yk9 a b)).2⟩
theorem aq86 (ax:Axs) (a b:Alt):(∀ (S:TS) (x y:gg),tBin Try.prog (EE ax) S 86 .eql x y (.agg (fl .i64 a.link :: (a.mod.mask.l.map (fl .i64)++(a.mod.bits.l.map (fl .i64))))) (.agg (fl .i64 b.link :: (b.mod.mask.l.map (fl .i64)++(b.mod.bits.l.map (fl .i64)))))=some (.bool (decide (a=b))))/\(∀ (S:TS) (x y:gg),tBin Try.prog (EE ax) S 86 .neq x y (.agg (fl .i64 a.link :: (a.mod.mask.l.map (fl .i64)++(a.mod.bits.l.map (fl .i64))))) (.agg (fl .i64 b.link :: (b.mod.mask.l.map (fl .i64)++(b.mod.bits.l.map (fl .i64)))))=some (.bool (!(decide (a=b))))):=⟨fun _ _ _=>(zq3 (sh:=yb3) (by kernel_rfl) (by kernel_rfl) (z6j a) (z6j b) (z8f a) (z8f b) (yla a b)).1,fun _ _ _=>(zq3 (sh:=yb3) (by kernel_rfl) (by kernel_rfl) (z6j a) (z6j b) (z8f a) (z8f b) (yla a b)).2⟩
theorem eqA:type_of% (fh (fh (fh (fh (@ints.eq_1) (fh (@z5c.eq_1) (@z3s))) (fh (@z16) (fh (@strs.eq_1) (@zj5.eq_1)))) (fh (fh (@ePat.eq_1) (fh (@eAlt.eq_1) (@lAlt.eq_1))) (fh (@za4.eq_1) (fh (@z3r) (@z15))))) (fh (fh (fh (@zak.eq_1) (fh (@zqp.eq_1) (@zqq.eq_1))) (fh (@zqr.eq_1) (fh (@zfj.eq_1) (@zfk.eq_1)))) (fh (fh (@zfl.eq_1) (fh (@eNet.eq_1) (@zad.eq_1))) (fh (@znh.eq_1) (fh (@lPat.eq_1) (@yis)))))):=fh (fh (fh (fh (@ints.eq_1) (fh (@z5c.eq_1) (@z3s))) (fh (@z16) (fh (@strs.eq_1) (@zj5.eq_1)))) (fh (fh (@ePat.eq_1) (fh (@eAlt.eq_1) (@lAlt.eq_1))) (fh (@za4.eq_1) (fh (@z3r) (@z15))))) (fh (fh (fh (@zak.eq_1) (fh (@zqp.eq_1) (@zqq.eq_1))) (fh (@zqr.eq_1) (fh (@zfj.eq_1) (@zfk.eq_1)))) (fh (fh (@zfl.eq_1) (fh (@eNet.eq_1) (@zad.eq_1))) (fh (@znh.eq_1) (fh (@lPat.eq_1) (@yis)))))
theorem eqB:type_of% (fh (fh (@z55) (fh (@ya2) (@zy1))) (fh (fh (@yir) (@z54)) (fh (@yiq) (@z53)))):=fh (fh (@z55) (fh (@ya2) (@zy1))) (fh (fh (@yir) (@z54)) (fh (@yiq) (@z53)))
theorem eqsA:type_of% (fh (fh (fh (fh (@z4k) (fh (@sgT) (@sgT1))) (fh (@sgD) (fh (@sgD1) (@sgG)))) (fh (fh (@splA) (fh (@yoc) (@yob))) (fh (@splS) (fh (@yf1) (@z31))))) (fh (fh (fh (@zuz) (fh (@z0r) (@z01))) (fh (@z3c) (fh (@yjv) (@yo2)))) (fh (fh (@yju) (fh (@yee) (@yfa))) (fh (@ynw) (fh (@Ar.len) (@zrl)))))):=fh (fh (fh (fh (@z4k) (fh (@sgT) (@sgT1))) (fh (@sgD) (fh (@sgD1) (@sgG)))) (fh (fh (@splA) (fh (@yoc) (@yob))) (fh (@splS) (fh (@yf1) (@z31))))) (fh (fh (fh (@zuz) (fh (@z0r) (@z01))) (fh (@z3c) (fh (@yjv) (@yo2)))) (fh (fh (@yju) (fh (@yee) (@yfa))) (fh (@ynw) (fh (@Ar.len) (@zrl)))))
theorem eqsB:type_of% (fh (fh (fh (@z3v) (@z0s)) (fh (@yll) (@sub0))) (fh (fh (@z6d) (@z0m)) (fh (@ybf) (fh (@ylm) (@yf5))))):=fh (fh (fh (@z3v) (@z0s)) (fh (@yll) (@sub0))) (fh (fh (@z6d) (@z0m)) (fh (@ybf) (fh (@ylm) (@yf5))))
theorem idsA:type_of% (fh (fh (fh (fh (@zqb) (fh (@z2r) (@z2t))) (fh (@zx9) (fh (@z7v) (@z2o)))) (fh (fh (@zqe) (fh (@zs7) (@zs8))) (fh (@zs6) (fh (@z2q) (@z2n))))) (fh (fh (fh (@zqa) (fh (@zya) (@zqc))) (fh (@zqd) (fh (@zqf) (@zqg)))) (fh (fh (@zu5) (fh (@zx6) (@zx1))) (fh (@zu6) (fh (@zx8) (@zx3)))))):=fh (fh (fh (fh (@zqb) (fh (@z2r) (@z2t))) (fh (@zx9) (fh (@z7v) (@z2o)))) (fh (fh (@zqe) (fh (@zs7) (@zs8))) (fh (@zs6) (fh (@z2q) (@z2n))))) (fh (fh (fh (@zqa) (fh (@zya) (@zqc))) (fh (@zqd) (fh (@zqf) (@zqg)))) (fh (fh (@zu5) (fh (@zx6) (@zx1))) (fh (@zu6) (fh (@zx8) (@zx3)))))
theorem idsB:type_of% (fh (fh (fh (fh (@zu7) (@zyb)) (fh (@zx4) (@z7y))) (fh (fh (@zu4) (@zx5)) (fh (@zx0) (@z2s)))) (fh (fh (fh (@zx7) (@zx2)) (fh (@z7x) (@z2p))) (fh (fh (@z2m) (@yjy)) (fh (@zgq) (fh (@yeo) (@zax)))))):=fh (fh (fh (fh (@zu7) (@zyb)) (fh (@zx4) (@z7y))) (fh (fh (@zu4) (@zx5)) (fh (@zx0) (@z2s)))) (fh (fh (fh (@zx7) (@zx2)) (fh (@z7x) (@z2p))) (fh (fh (@z2m) (@yjy)) (fh (@zgq) (fh (@yeo) (@zax)))))
structure ynr (ax:Axs):Prop where
  no:∀ f,gc f 9=false->ax f=none
  san:Pure Try.prog (EE ax) [] 9 [] (.bool true)
theorem Pure.clr {P:gw} {Γ:Env} {GL:List (Nat×List Value)} {f:FuncId} {args:List T} {v v2:T} {S:TS} (k:Pure P Γ GL f args v) (e:v=v2):zaj P Γ GL f args S v2:=e ▸ k.call S
mutual
inductive Rt (W:World):T->Value->Prop
  |int (k n):Rt W (.int k n) (.int k n)
  |bool (b):Rt W (.bool b) (.bool b)
  |str (b):Rt W (.str b) (.string b)
  |agg {l cs}:RtL W l cs->Rt W (.agg l) (.agg ⟨cs⟩)
  |nil {e}:Rt W (.lst e []) (.slice none 0 0)
  |zero {e a}:0<e->0<W.heap.size->Rt W (.lst e []) (.slice (some a) 0 0)
  |lst {e l b off cap cs}:RtL W (l.flatMap jj) cs->(∀ t,t∈l->t.cells.length=e)->0<e->l.length<=cap->cap<=maxLen->(W.cell? ⟨b,off,none⟩).isSome=true->(∀ (j:Nat) u,cs[j]?=some u->W.cell? ⟨b,off+j,none⟩=some u)->Rt W (.lst e l) (.slice (some ⟨b,off,none⟩) l.length cap)
inductive RtL (W:World):List T->List Value->Prop
  |nil:RtL W [] []
  |cons {t v l vs}:Rt W t v->RtL W l vs->RtL W (t :: l) (v :: vs)
end
section
variable {W:World} {N:Nat} {G:List Nat} {K:List (Nat×List Value)}
theorem RtL.len:∀ {l:List T} {vs:List Value},RtL W l vs->l.length=vs.length
  |_,_,.nil=>rfl
  |_,_,.cons _ h=>by rw [gp,gp,h.len]
theorem z5u {b j k:Nat} (h:(W.cell? ⟨b,k,none⟩).isSome=true) (hj:j<=k):(W.cell? ⟨b,j,none⟩).isSome=true:=by
  unfold r9 at h ⊢;simp only at h ⊢;split at h
  . rename_i c _ _ hb;simp only [Option.isSome_none,Bool.false_eq_true,if_false] at h ⊢
    have:k<c.size:=by
      by_cases hk:k<c.size
      . exact hk
      . rw [Array.getElem?_eq_none (by omega)] at h;simp at h
    rw [ld (by omega)];rfl
  . simp at h
theorem yh6 {b k:Nat} (h:(W.cell? ⟨b,k,none⟩).isSome=true):b<W.heap.size:=by
  unfold r9 at h;simp only at h;by_cases hb:b<W.heap.size
  . exact hb
  . rw [Array.getElem?_eq_none (by omega)] at h;simp at h
theorem zua {u:Nat} {m:List (Nat×List Value)}:∀ {l:List (Nat×List Value)},(∀ p,p∈l->p.1≠u)->zbp (l++m) u=zbp m u
  |[],_=>rfl
  |p :: l,h=>by
    show (bif gc p.1 u then some p.2 else zbp (l++m) u)=_;rw [zi7 (h p (by simp)),cond_false];exact zua fun q hq=>h q (by simp [hq])
theorem zt0 {f:Nat} {q:Seg}:∀ {F:List Seg} {i j:Nat},F[i]?=some q->q.b=f->zbp (zkp N f j F) ((N+(j+i))*1024)=some q.cs
  |[],i,j,h,_=>by simp at h
  |p :: F,0,j,h,hb=>by
    simp only [ij,fi] at h;subst h;unfold zkp;rw [zAc hb]
    simp [zbp,Nat.beq_refl]
  |p :: F,i+1,j,h,hb=>by
    have ih:=zt0 (F:=F) (i:=i) (j:=j+1) (by simpa using h) hb;rw [show j+1+i=j+(i+1) by omega] at ih;unfold zkp;split
    . unfold zbp
      have:gc ((N+j)*1024) ((N+(j+(i+1)))*1024)=false:=by
        cases hq:gc ((N+j)*1024) ((N+(j+(i+1)))*1024) with
        |false=>rfl
        |true=>have:=fq hq;omega
      rw [this];exact ih
    . exact ih
def Low (N:Nat):Nat->Prop:=fun f=>f<N
structure En (W:World) (N:Nat) (G:List Nat) (K:List (Nat×List Value)) (pre A:List Seg) (l:List T) (xs vs:List Value):Prop where
  vr:∀ post,RL (VR (sgS N G K (pre++A++post))) xs vs
  vl:∀ post,VL (Low N) bx0 (famS N K (pre++A++post)) l xs
  at_:∀ post q,q∈A->yps (sgS N G K (pre++A++post)) W q
theorem yod (hK:∀ p,p∈K->has G p.1=true) (hG:∀ g,has G g=true->g<N) {F:List Seg} {i:Nat} {q:Seg} (hq:F[i]?=some q) (hb:q.b<N) :
    sgS N G K F q.b ((N+i)*1024)=some (q.b,q.o,q.o+q.cs.length)/\zbp (famS N K F q.b).rows ((N+i)*1024)=some q.cs:=by
  constructor
  . unfold sgS;rw [zAd (by rintro ⟨_,h⟩;omega),zAc (by omega)];have e:(N+i)*1024 / 1024 - N=i:=by omega
    rw [e,hq];show (if q.b=q.b then _ else _)=_;rw [zAc rfl]
  . show zbp ((famK K q.b).rows++zkp N q.b 0 F) _=_;rw [zua fun p hp=>?_]
    . have:=zt0 (N:=N) (j:=0) hq rfl
      rwa [jb] at this
    . obtain ⟨h1,h2,_⟩:=zvi hp;have:=hG _ (hK _ h2);rw [h1];simp only at this;omega
theorem yek {α:Type} (pre A post:List α) (q:α):(pre++(A++[q])++post)[pre.length+A.length]?=some q:=by
  rw [gr,gr,iw (by omega),iw (by omega)];simp
mutual
theorem ent (hN:N=W.heap.size) (hK:∀ p,p∈K->has G p.1=true) (hG:∀ g,has G g=true->g<N):∀ {t:T} {v:Value},Rt W t v->∀ pre,∃ A x,En W N G K pre A [t] [x] [v]
  |_,_,.int k n,pre=>⟨[],.int k n,⟨fun _=>⟨zij 3 rfl,trivial⟩,fun _=>.cons (.int k n) .nil,fun _ q hq=>by simp at hq⟩⟩
  |_,_,.bool b,pre=>⟨[],.bool b,⟨fun _=>⟨zij 3 rfl,trivial⟩,fun _=>.cons (.bool b) .nil,fun _ q hq=>by simp at hq⟩⟩
  |_,_,.str b,pre=>⟨[],.string b,⟨fun _=>⟨zij 3 rfl,trivial⟩,fun _=>.cons (.str b) .nil,fun _ q hq=>by simp at hq⟩⟩
  |_,_,.agg h,pre=>by
    obtain ⟨A,xs,k⟩:=entL hN hK hG h pre;exact ⟨A,.agg ⟨xs⟩,fun post=>⟨VR.mk ⟨_,rfl,k.vr post⟩,trivial⟩,fun post=>.cons (.agg (k.vl post)) .nil,k.at_⟩
  |_,_,.nil,pre=>⟨[],.slice none 0 0,⟨fun _=>⟨VR.mk ⟨rfl,rfl,rfl⟩,trivial⟩,fun _=>.cons .lnil .nil,fun _ q hq=>by simp at hq⟩⟩
  |.lst e _,.slice _ _ _,@Rt.zero _ _ a he hs,pre=>by
    have hi:=fun post=>yek pre [] post (⟨0,0,[]⟩:Seg);have h0:∀ post,_:=fun post=>yod (q:=(⟨0,0,[]⟩:Seg)) hK hG (hi post) (by show 0<N;omega);refine ⟨[⟨0,0,[]⟩],.slice (some (mkA 0 ((N+(pre.length+0))*1024) 0)) 0 0,⟨fun post=>⟨VR.mk ⟨0,0,_,(h0 post).1,a,0,rfl,fx _,fx _,iy _,fun h=>absurd rfl h,fun _=>rfl,fun _ h=>absurd rfl h⟩,trivial⟩,fun post=>.cons ?_ .nil,fun post q hq=>?_⟩⟩
    . exact .lst (l:=[]) (cs:=[]) (show (0:Nat)<N by omega) (h0 post).2 .nil (fun t ht=>by simp at ht) he rfl (.inl (by omega)) (fx _)
    . simp only [ib] at hq;subst hq;exact ⟨hs,fun j hj=>by simp at hj,fun j u hu=>by simp at hu⟩
  |.lst e l,.slice _ _ cap,@Rt.lst _ _ _ b off _ cs h hs he hl hm hc hcell,pre=>by
    obtain ⟨A,xs,k⟩:=entL hN hK hG h pre;have hxl:xs.length=cs.length:=(k.vr []).length;have hb:b<W.heap.size:=yh6 hc;have hi:=fun post=>yek pre A post (⟨b,off,xs⟩:Seg);have h0:=fun post=>yod (q:=(⟨b,off,xs⟩:Seg)) hK hG (hi post) (by show b<N;omega);have hF:∀ post,pre++(A++[⟨b,off,xs⟩])++post=pre++A++((⟨b,off,xs⟩:Seg) :: post):=fun post=>by simp
    refine ⟨A++[⟨b,off,xs⟩],.slice (some (mkA b ((N+(pre.length+A.length))*1024) 0)) l.length cap,⟨fun post=>⟨VR.mk ⟨b,off,_,(h0 post).1,⟨b,off,none⟩,cap,rfl,hl,fx _,hm,fun _=>rfl,fun _=>rfl,fun ht=>?_⟩,trivial⟩,fun post=>.cons ?_ .nil,fun post q hq=>?_⟩⟩
    . rw [zju] at ht;omega
    . refine .lst (cs:=xs) (show b<N by omega) (h0 post).2 ?_ hs he (by rw [gt,List.take_length]) (.inl (by omega)) hl;rw [hF];exact k.vl _
    . rcases ig.1 hq with hq|hq
      . rw [hF];exact k.at_ _ q hq
      . simp only [ib] at hq;subst hq;refine ⟨hb,fun j hj=>?_,fun j u hu=>?_⟩
        . have hj:j<off+xs.length:=hj;by_cases h1:j<=off
          . exact z5u hc h1
          . have hjc:j - off<cs.length:=by omega
            have:=hcell (j - off) _ (fp hjc);rw [show off+(j - off)=j by omega] at this;rw [this];rfl
        . have hju:j<xs.length:=(gl.1 hu).1;have hu:xs[j]?=some u:=hu;have hcs:=fp (l:=cs) (i:=j) (by omega);refine ⟨_,hcell j _ hcs,?_⟩;rw [hF];obtain ⟨y,hy1,hy2⟩:=(k.vr (⟨b,off,xs⟩ :: post)).at hu;rw [hcs] at hy1;cases hy1;exact hy2
theorem entL (hN:N=W.heap.size) (hK:∀ p,p∈K->has G p.1=true) (hG:∀ g,has G g=true->g<N):∀ {l:List T} {vs:List Value},RtL W l vs->∀ pre,∃ A xs,En W N G K pre A l xs vs
  |_,_,.nil,pre=>⟨[],[],⟨fun _=>trivial,fun _=>.nil,fun _ q hq=>by simp at hq⟩⟩
  |_,_,.cons h1 h2,pre=>by
    obtain ⟨A1,x,k1⟩:=ent hN hK hG h1 pre;obtain ⟨A2,xs,k2⟩:=entL hN hK hG h2 (pre++A1);have e1:∀ post,pre++(A1++A2)++post=pre++A1++(A2++post):=fun post=>by simp
    have e2:∀ post,pre++(A1++A2)++post=pre++A1++A2++post:=fun post=>by simp
    refine ⟨A1++A2,x :: xs,⟨fun post=>⟨?_,?_⟩,fun post=>?_,fun post q hq=>?_⟩⟩
    . rw [e1];exact (k1.vr _).1
    . rw [e2];exact k2.vr _
    . have a:=k1.vl (A2++post);have b:=k2.vl post;rw [<- e1] at a;rw [<- e2] at b
      cases a with
      |cons a _=>exact .cons a b
    . rcases ig.1 hq with hq|hq
      . rw [e1];exact k1.at_ _ q hq
      . rw [e2];exact k2.at_ _ q hq
end
end
inductive Sh where
  |int (k:i4)
  |bool
  |str
  |slice (e:Sh)
  |struct (l:List Sh)
  |arr (k:i4) (n:Nat)
mutual
def Sh.sz:Sh->Nat
  |.struct l=>Sh.szL l
  |.arr _ n=>n
  |_=>1
def Sh.szL:List Sh->Nat
  |[]=>0
  |s :: l=>s.sz+Sh.szL l
end
mutual
def shOk (P:gw):Sh->gu->Bool
  |.int k,t=>match P.underlying t with|some (.int k')=>decide (k=k')|_=>false
  |.bool,t=>match P.underlying t with|some .bool=>true|_=>false
  |.str,t=>match P.underlying t with|some .string=>true|_=>false
  |.slice s,t=>match P.underlying t with|some (.slice e)=>gc (P.cellsOf e) s.sz && (Nat.blt 0 s.sz && shOk P s e)|_=>false
  |.struct l,t=>match P.underlying t with|some (.struct fs)=>gc (P.cellsOf t) (Sh.szL l) && z9r P l fs.toList 0|_=>false
  |.arr k n,t=>match P.underlying t with|some (.array m e)=>gc m n && (gc (P.cellsOf t) n && (gc (P.cellsOf e) 1 && (match P.underlying e with|some (.int k')=>decide (k=k')|_=>false)))|_=>false
def z9r (P:gw):List Sh->List Field->Nat->Bool
  |[],[],_=>true
  |s :: l,f :: fs,o=>gc f.offset o && (gc (P.cellsOf f.type) s.sz && (shOk P s f.type && z9r P l fs (o+s.sz)))
  |_,_,_=>false
end
mutual
def conf:Sh->T->Prop
  |.int k,t=>∃ n,t=.int k n/\(Lit.int k n).wf=true
  |.bool,t=>∃ b,t=.bool b
  |.str,t=>∃ s,t=.str s/\s.size<=maxLen
  |.slice e,t=>∃ l,t=.lst e.sz l/\l.length<=maxLen/\∀ x,x∈l->conf e x
  |.struct l,t=>∃ cs,t=.agg cs/\ym8 l cs
  |.arr k n,t=>∃ a:Ar n,t=.agg (a.l.map (fl k))/\∀ x,x∈a.l->(Lit.int k x).wf=true
def ym8:List Sh->List T->Prop
  |[],cs=>cs=[]
  |s :: l,cs=>∃ x r,cs=x.cells++r/\conf s x/\ym8 l r
end
theorem yfo {α:Type} {p:Nat->α->Prop}:∀ n,(∀ i,i<n->∃ x,p i x)->∃ l:List α,l.length=n/\∀ i (hi:i<l.length),p i l[i]:=by
  intro n
  induction n with
  |zero=>intro _;exact ⟨[],rfl,fun i hi=>by simp at hi⟩
  |succ n ih =>
    intro h;obtain ⟨l,hl,hp⟩:=ih (fun i hi=>h i (by omega));obtain ⟨x,hx⟩:=h n (by omega);refine ⟨l++[x],by simp [hl],fun i hi=>?_⟩;by_cases hin:i<l.length
    . rw [List.getElem_append_left hin];exact hp i hin
    . have:i=l.length:=by simp at hi;omega
      subst this;rw [List.getElem_append_right (fx _)];simpa [hl] using hx
section
variable {H:Type} {enc:gu×Value->H} {P:gw} {W:World}
theorem RtL.append:∀ {l l2:List T} {vs vs2:List Value},RtL W l vs->RtL W l2 vs2->RtL W (l++l2) (vs++vs2)
  |_,_,_,_,.nil,k=>k
  |_,_,_,_,.cons h k,k2=>.cons h (k.append k2)
theorem RtL.flat:∀ {l:List (T×List Value)},(∀ p,p∈l->RtL W p.1.cells p.2)->RtL W ((l.map (·.1)).flatMap jj) (l.map (·.2)).flatten
  |[],_=>.nil
  |p :: l,h=>by
    rw [ja,jg,ja,ir];exact (h p (by simp)).append (RtL.flat fun q hq=>h q (by simp [hq]))
theorem zyf {b k:Nat}:∀ {l:List (List Value)} {o:Nat},(∀ c,c∈l->c.length=k)->(∀ (i:Nat) c,l[i]?=some c->∀ j,j<k->W.cell? ⟨b,o+i*k+j,none⟩=c[j]?)->∀ (j:Nat) u,l.flatten[j]?=some u->W.cell? ⟨b,o+j,none⟩=some u
  |[],o,_,_,j,u,h=>by simp at h
  |c :: l,o,hl,hc,j,u,h=>by
    have hck:=hl c (by simp);rw [ir] at h;by_cases hj:j<c.length
    . rw [gq hj] at h;have:=hc 0 c rfl j (by omega);rw [Nat.zero_mul,j0] at this;rw [this,h]
    . rw [iw (by omega)] at h
      have:=zyf (o:=o+k) (fun c hc=>hl c (by simp [hc])) (fun i c' hi j hj=>by
        have:=hc (i+1) c' (by simpa using hi) j hj;rw [show o+(i+1)*k+j=o+k+i*k+j by rw [js];omega] at this
        exact this) (j - c.length) u h
      rw [show o+k+(j - c.length)=o+j by omega] at this;exact this
def zvz (W:World) (cs:List Value):Prop:=∀ v,v∈cs->(∃ a n c,v=.slice (some a) n c)->0<W.heap.size
theorem zvz.of (h:0<W.heap.size) (cs:List Value):zvz W cs:=fun _ _ _=>h
theorem zvz.sub {cs cs':List Value} (h:zvz W cs) (hs:∀ v,v∈cs'->v∈cs):zvz W cs':=fun v hv=>h v (hs v hv)
theorem z9q {s:Sh} {e t:gu} {fuel:Nat} {cs:List Value} {x:DataW H×List MemPlace} (ht:P.underlying t=some (.slice e)) (hsz:P.cellsOf e=s.sz) (hpos:0<s.sz)
    (ih:∀ {fuel:Nat} {cs:List Value} {x:DataW H×List MemPlace},DataW.trod enc P W 0 (fun _=>true) true fuel e cs=some x->zvz W cs->∃ tr,conf s tr/\RtL W tr.cells cs)
    (h:DataW.trod enc P W 0 (fun _=>true) true fuel t cs=some x) (hz:zvz W cs):∃ tr,conf (.slice s) tr/\RtL W tr.cells cs:=by
  rcases Go.Deep.open_slice ht h with ⟨rfl,_⟩|⟨a,len,cap,m,n,D,Pl,rfl,hb,hl,hm,hmm,_,hall⟩
  . exact ⟨.lst s.sz [],⟨[],rfl,iy _,fun x hx=>by simp at hx⟩,.cons .nil .nil⟩
  . have hh:0<W.heap.size:=hz (.slice (some a) len cap) (by simp) ⟨_,_,_,rfl⟩;simp only [if_true] at hmm;subst hmm;rw [hsz] at hall;by_cases h0:m=0
    . subst h0;have:len=0:=by omega
      subst this;exact ⟨.lst s.sz [],⟨[],rfl,iy _,fun x hx=>by simp at hx⟩,.cons (.zero hpos hh) .nil⟩
    obtain ⟨cs0,hc0,_⟩:=hall 0 (by omega);obtain ⟨_,hl0,hcc0⟩:=World.cells?_some hc0
    have hcell0:((W.cell? ((a.add (0*s.sz)).add 0))).isSome=true:=by
      rw [hcc0 0 hpos,fp (by omega)];rfl
    obtain ⟨b,off,spot⟩:=a
    have hspot:spot=none:=by
      cases hq:W.cell? (((⟨b,off,spot⟩:Addr).add (0*s.sz)).add 0) with
      |none=>rw [hq] at hcell0;simp at hcell0
      |some u=>simpa [Addr.add] using World.cell?_spot hq
    subst hspot;simp only [n4,Nat.zero_mul,j0] at hcell0
    obtain ⟨l,hll,hp⟩:=yfo (p:=fun i (p:T×List Value)=>conf s p.1/\RtL W p.1.cells p.2/\p.2.length=s.sz/\∀ j,j<s.sz->W.cell? ⟨b,off+i*s.sz+j,none⟩=p.2[j]?) len (fun i hi=>by
      obtain ⟨cs',h1,h2⟩:=hall i (by omega);obtain ⟨tr,k1,k2⟩:=ih h2 (zvz.of hh _);obtain ⟨-,hcl,hcc⟩:=World.cells?_some h1
      exact ⟨(tr,cs'),k1,k2,hcl,fun j hj=>by have:=hcc j hj;rw [n4,n4] at this;exact this⟩)
    have hmem:∀ p,p∈l->∃ i,i<l.length/\l[i]?=some p/\conf s p.1/\RtL W p.1.cells p.2/\p.2.length=s.sz:=fun p hp'=>by
      obtain ⟨i,hi,rfl⟩:=m5 hp';exact ⟨i,hi,fp hi,(hp i hi).1,(hp i hi).2.1,(hp i hi).2.2.1⟩
    refine ⟨.lst s.sz (l.map (·.1)),⟨_,rfl,by rw [fw];omega,fun x hx=>?_⟩,.cons ?_ .nil⟩
    . obtain ⟨p,hp1,rfl⟩:=jq.1 hx;obtain ⟨_,_,_,k,_⟩:=hmem p hp1;exact k
    . have:=Rt.lst (W:=W) (e:=s.sz) (l:=l.map (·.1)) (b:=b) (off:=off) (cap:=m) (cs:=(l.map (·.2)).flatten) (RtL.flat fun p hp1=>by obtain ⟨_,_,_,_,k,_⟩:=hmem p hp1;exact k) (fun t ht'=>?_) hpos (by rw [fw];omega) hm hcell0 ?_
      . rw [fw,hll] at this;exact this
      . obtain ⟨p,hp1,rfl⟩:=jq.1 ht';obtain ⟨_,_,_,_,k,k2⟩:=hmem p hp1;rw [k.len,k2]
      . refine zyf (k:=s.sz) (fun c hc=>?_) (fun i c hi=>?_)
        . obtain ⟨p,hp1,rfl⟩:=jq.1 hc;obtain ⟨_,_,_,_,_,k2⟩:=hmem p hp1;exact k2
        . rw [lr] at hi
          cases hq:l[i]? with
          |none=>rw [hq] at hi;simp at hi
          |some p =>
            rw [hq] at hi;simp only [Option.map_some,fi] at hi;subst hi;have hil:=(gl.1 hq).1;have:l[i]=p:=(gl.1 hq).2;have:=(hp i hil).2.2.2;rw [‹l[i]=p›] at this;exact this
theorem z9j {W:World} {k:i4}:∀ (l:List Int),RtL W (l.map (fl k)) (l.map (jn k))
  |[]=>.nil
  |x :: l=>.cons (.int _ _) (z9j l)
theorem beqN {a b:Nat} (h:gc a b=true):a=b:=fq h
mutual
theorem zul:∀ {s:Sh} {t:gu} {fuel:Nat} {cs:List Value} {x:DataW H×List MemPlace},shOk P s t=true->DataW.trod enc P W 0 (fun _=>true) true fuel t cs=some x->zvz W cs->∃ tr,conf s tr/\RtL W tr.cells cs
  |.int k,t,fuel,cs,x,hs,h,hz=>by
    unfold shOk at hs;split at hs
    . rename_i k' hu;have:k=k':=of_decide_eq_true hs;subst this;obtain ⟨n,rfl,-,hw⟩:=DataW.trod_int hu h;exact ⟨.int k n,⟨n,rfl,hw⟩,.cons (.int k n) .nil⟩
    . simp at hs
  |.bool,t,fuel,cs,x,hs,h,hz=>by
    unfold shOk at hs;split at hs
    . rename_i hu;obtain ⟨b,rfl,-⟩:=DataW.trod_bool hu h;exact ⟨.bool b,⟨b,rfl⟩,.cons (.bool b) .nil⟩
    . simp at hs
  |.str,t,fuel,cs,x,hs,h,hz=>by
    unfold shOk at hs;split at hs
    . rename_i hu;obtain ⟨b,rfl,-,hb⟩:=DataW.trod_string hu h;exact ⟨.str b,⟨b,rfl,hb⟩,.cons (.str b) .nil⟩
    . simp at hs
  |.slice s,t,fuel,cs,x,hs,h,hz=>by
    unfold shOk at hs;split at hs
    . rename_i e hu;simp only [fo] at hs;exact z9q hu (beqN hs.1) (zae.1 hs.2.1) (fun h hz=>zul hs.2.2 h hz) h hz
    . simp at hs
  |.struct l,t,fuel,cs,x,hs,h,hz=>by
    unfold shOk at hs;split at hs
    . rename_i fs hu;simp only [fo] at hs;obtain ⟨xs,n,-,-,hl,hxl,hall⟩:=DataW.trod_struct hu h
      obtain ⟨ts,k1,k2⟩:=z7a (fs:=fs.toList) (o:=0) (pre:=cs) (fuel:=n) hs.2 (fun f hf=>by
        obtain ⟨i,hi,rfl⟩:=m5 hf;have hi':i<fs.size:=by simpa using hi
        have:=hall i fs[i] (ld hi');rw [fp (by omega)] at this
        exact ⟨_,by rw [Array.getElem_toList];exact this⟩) (by rw [hl,beqN hs.1];omega) hz
      rw [gt] at k2;have hlen:cs.take (Sh.szL l)=cs:=il (by rw [hl,beqN hs.1];exact fx _);rw [hlen] at k2;exact ⟨.agg ts,⟨ts,rfl,k1⟩,k2⟩
    . simp at hs
  |.arr k n,t,fuel,cs,x,hs,h,hz=>by
    unfold shOk at hs;split at hs
    . rename_i m e hu;simp only [fo] at hs;obtain ⟨h1,h2,h3,h4⟩:=hs;split at h4
      . rename_i k' he;have hkk:k=k':=of_decide_eq_true h4;subst hkk;have hmn:=beqN h1;subst hmn;obtain ⟨xs,fu,rfl,hx1,hlen,hxl,hel⟩:=DataW.trod_array hu h;have hl:cs.length=m:=by rw [hlen];exact beqN h2
        have key:∀ i,i<m->∃ z,cs[i]?=some (.int k z)/\(Lit.int k z).wf=true:=by
          intro i hi;have h0:=hel i hi;rw [beqN h3,qo,fp (by omega)] at h0;obtain ⟨z,e1,e2,e3⟩:=DataW.trod_int he h0;refine ⟨z,?_,e3⟩;have:(cs.drop i)[0]?=((cs.drop i).take 1)[0]?:=by rw [List.getElem?_take_of_lt (by omega)]
          have e1':(cs.drop i).take 1=[.int k z]:=e1;rw [e1'] at this;simpa using this
        obtain ⟨l,hl2,hp⟩:=yfo (p:=fun i (z:Int)=>cs[i]?=some (.int k z)/\(Lit.int k z).wf=true) m key
        have hcl:cs=l.map (jn k):=by
          apply List.ext_getElem (by rw [hl,fw,hl2]);intro i h1 h2;have:=(hp i (by rw [hl2,<- hl];exact h1)).1;rw [fp h1] at this;rw [List.getElem_map];exact Option.some.inj this
        refine ⟨.agg (l.map (fl k)),⟨⟨l,hl2⟩,rfl,fun x hx=>?_⟩,?_⟩
        . obtain ⟨i,hi,rfl⟩:=m5 hx;exact (hp i hi).2
        . rw [hcl];exact z9j l
      . simp at h4
    . simp at hs
theorem z7a:∀ {l:List Sh} {fs:List Field} {o fuel:Nat} {pre:List Value},z9r P l fs o=true->(∀ f,f∈fs->∃ x,DataW.trod enc P W 0 (fun _=>true) true fuel f.type ((pre.drop f.offset).take (P.cellsOf f.type))=some x)->o+Sh.szL l<=pre.length->zvz W pre->∃ ts,ym8 l ts/\RtL W ts ((pre.drop o).take (Sh.szL l))
  |[],[],o,fuel,pre,hs,h,hl,hz=>⟨[],rfl,by unfold Sh.szL;rw [nh];exact .nil⟩
  |[],_ :: _,o,fuel,pre,hs,h,hl,hz=>by simp [z9r] at hs
  |_ :: _,[],o,fuel,pre,hs,h,hl,hz=>by simp [z9r] at hs
  |s :: l,f :: fs,o,fuel,pre,hs,h,hl,hz=>by
    unfold z9r at hs;unfold Sh.szL at hl ⊢;simp only [fo] at hs;obtain ⟨x,hx⟩:=h f (by simp);rw [beqN hs.1,beqN hs.2.1] at hx;obtain ⟨tr,k1,k2⟩:=zul hs.2.2.1 hx (hz.sub fun v hv=>List.mem_of_mem_drop (List.mem_of_mem_take hv));obtain ⟨ts,k3,k4⟩:=z7a (o:=o+s.sz) (pre:=pre) (fuel:=fuel) hs.2.2.2 (fun g hg=>h g (by simp [hg])) (by omega) hz;refine ⟨tr.cells++ts,⟨tr,ts,rfl,k1,k3⟩,?_⟩;have:=k2.append k4;rw [show List.take s.sz (List.drop o pre)++List.take (Sh.szL l) (List.drop (o+s.sz) pre)=List.take (s.sz+Sh.szL l) (List.drop o pre) by rw [List.take_add,l6]] at this;exact this
end
theorem zsf {r:Reach} {base:Nat} {u:gu} {a:Addr} {n c:Nat} (h:Cell.okWide P W r base u (.slice (some a) n c)):0<W.heap.size:=by
  have key:Cell.ok P W r base u (.slice (some a) n c)->0<W.heap.size:=fun h=>by
    unfold Cell.ok at h;split at h<;>first|contradiction | (exact h.elim)|skip
    rename_i hq;cases hq;obtain ⟨-,-,-,-,row,cells,hs,-⟩:=h;unfold World.shape? at hs;by_cases hb:0<W.heap.size
    . exact hb
    . rw [Array.getElem?_eq_none (by omega)] at hs;simp at hs
  unfold Cell.okWide at h;split at h<;>first|exact key h|contradiction
theorem yaq {r:Reach} {base:Nat} {u:gu} {cs:Array Value} (h:Cell.okWide P W r base u (.agg cs)):False:=by
  unfold Cell.okWide at h;split at h<;>first|contradiction | (unfold Cell.ok at h;split at h<;>first|contradiction|exact h)
theorem z7c {r:Reach} {base:Nat} {s:Sh} {t:gu} {v:Value} {d:DataW H} {ps:List MemPlace} (hs:shOk P s t=true) (hv:ru P W r base t v) (h:DataW.Trod enc P W 0 (fun _=>true) true t v d ps):∃ tr,conf s tr/\Rt W tr v:=by
  obtain ⟨fuel,h⟩:=h
  have one:(∀ fs,P.underlying t≠some (.struct fs))->(∀ n e,P.underlying t≠some (.array n e))->(∀ l,s≠.struct l)->(∀ k n,s≠.arr k n)->∃ tr,conf s tr/\Rt W tr v:=fun h1 h2 h3 h4=>by
    have hc:Cell.okWide P W r base t v:=by
      unfold ru at hv;split at hv
      . rename_i fs hu;exact absurd hu (h1 fs)
      . rename_i n e hu;exact absurd hu (h2 n e)
      . exact hv
    have hcs:v.cells.toList=[v]:=by
      cases v<;>first|rfl|exact (yaq hc).elim
    rw [hcs] at h
    obtain ⟨tr,k1,k2⟩:=zul hs h (fun x hx ⟨a,n,c,he⟩=>by
      simp only [ib] at hx;subst hx;subst he
      exact zsf hc)
    have ht:tr.cells=[tr]:=by
      cases s with
      |struct l=>exact absurd rfl (h3 l)
      |int k=>obtain ⟨n,rfl,_⟩:=k1;rfl
      |bool=>obtain ⟨n,rfl⟩:=k1;rfl
      |str=>obtain ⟨n,rfl,_⟩:=k1;rfl
      |slice e=>obtain ⟨l,rfl,_⟩:=k1;rfl
      |arr k n=>exact absurd rfl (h4 k n)
    rw [ht] at k2
    cases k2 with
    |cons a _=>exact ⟨tr,k1,a⟩
  cases s with
  |struct l =>
    have hu:∃ fs,P.underlying t=some (.struct fs):=by
      unfold shOk at hs;split at hs
      . rename_i fs hu;exact ⟨fs,hu⟩
      . simp at hs
    obtain ⟨fs,hu⟩:=hu;unfold ru at hv;rw [hu] at hv;obtain ⟨cs,rfl,-,ts,-,-,hall⟩:=hv
    obtain ⟨tr,k1,k2⟩:=zul hs h (fun x hx ⟨a,n,c,he⟩=>by
      subst he;obtain ⟨i,hi,hq⟩:=m5 hx;have hi':i<cs.size:=by simpa [Value.cells] using hi
      obtain ⟨u,-,hu2⟩:=hall i _ (ld hi');have:cs[i]=.slice (some a) n c:=by simpa [Value.cells] using hq
      rw [this] at hu2
      exact zsf hu2)
    obtain ⟨ts,rfl,_⟩:=id k1;exact ⟨_,k1,.agg (by simpa [jj,Value.cells] using k2)⟩
  |int k =>
    have:∃ k',P.underlying t=some (.int k'):=by
      unfold shOk at hs;split at hs
      . rename_i k' hu;exact ⟨k',hu⟩
      . simp at hs
    obtain ⟨k',hu⟩:=this;exact one (fun fs hh=>by rw [hu] at hh;simp at hh) (fun n e hh=>by rw [hu] at hh;simp at hh) (fun l hh=>by simp at hh) (fun k n hh=>by simp at hh)
  |bool =>
    have:P.underlying t=some .bool:=by
      unfold shOk at hs;split at hs
      . rename_i hu;exact hu
      . simp at hs
    exact one (fun fs hh=>by rw [this] at hh;simp at hh) (fun n e hh=>by rw [this] at hh;simp at hh) (fun l hh=>by simp at hh) (fun k n hh=>by simp at hh)
  |str =>
    have:P.underlying t=some .string:=by
      unfold shOk at hs;split at hs
      . rename_i hu;exact hu
      . simp at hs
    exact one (fun fs hh=>by rw [this] at hh;simp at hh) (fun n e hh=>by rw [this] at hh;simp at hh) (fun l hh=>by simp at hh) (fun k n hh=>by simp at hh)
  |slice e =>
    have:∃ e,P.underlying t=some (.slice e):=by
      unfold shOk at hs;split at hs
      . rename_i e hu;exact ⟨e,hu⟩
      . simp at hs
    obtain ⟨e',hu⟩:=this;exact one (fun fs hh=>by rw [hu] at hh;simp at hh) (fun n e hh=>by rw [hu] at hh;simp at hh) (fun l hh=>by simp at hh) (fun k n hh=>by simp at hh)
  |arr k n =>
    have hu:∃ m e,P.underlying t=some (.array m e):=by
      unfold shOk at hs;split at hs
      . rename_i m e hu;exact ⟨m,e,hu⟩
      . simp at hs
    obtain ⟨m,e,hu⟩:=hu;unfold ru at hv;rw [hu] at hv;obtain ⟨cs,rfl,-⟩:=hv;have hnoslice:∀ tr:T,conf (.arr k n) tr->True:=fun _ _=>trivial;have hs0:=hs;unfold shOk at hs0;rw [hu] at hs0;simp only [fo] at hs0;obtain ⟨q1,q2,q3,q4⟩:=hs0;split at q4
    . rename_i k' he;obtain ⟨xs,fu,-,-,hlen,hxlen,hel⟩:=DataW.trod_array hu h
      have hz:zvz W (Value.agg cs).cells.toList:=fun x hx ⟨a,n2,c,he2⟩=>by
        subst he2;obtain ⟨i,hi,hq⟩:=m5 hx;have hl:(Value.agg cs).cells.toList.length=n:=by rw [hlen];exact beqN q2
        have hmn:=beqN q1;have h0:=hel i (by omega);rw [beqN q3,qo] at h0
        cases hxi:xs[i]? with
        |none =>
          rw [hxi] at h0;have:=List.getElem?_eq_none_iff.1 hxi;omega
        |some z =>
          rw [hxi] at h0;obtain ⟨w,e1,-,-⟩:=DataW.trod_int he h0;have e2:((Value.agg cs).cells.toList.drop i)[0]?=(((Value.agg cs).cells.toList.drop i).take 1)[0]?:=by rw [List.getElem?_take_of_lt (by omega)]
          rw [e1,lj,j0,fp hi,hq] at e2;simp at e2
      obtain ⟨tr,k1,k2⟩:=zul hs h hz;obtain ⟨a,rfl,_⟩:=id k1;exact ⟨_,k1,.agg (by simpa [jj,Value.cells] using k2)⟩
    . simp at q4
end
def zu0 (w:Nat):Nat:=if w=0 then 0 else ks w+1
theorem zi0 {n:Nat} (h:2<=n):ks n=ks (n / 2)+1:=by
  rw [Nat.log2_def,zAc h]
theorem yhr {n:Nat} (h:256<=n):zu0 n=8+zu0 (n / 256):=by
  unfold zu0;rw [zAd (by omega),zAd (by omega)];rw [zi0 (n:=n) (by omega),zi0 (n:=n / 2) (by omega),zi0 (n:=n / 2 / 2) (by omega),zi0 (n:=n / 2 / 2 / 2) (by omega),zi0 (n:=n / 2 / 2 / 2 / 2) (by omega),zi0 (n:=n / 2 / 2 / 2 / 2 / 2) (by omega),zi0 (n:=n / 2 / 2 / 2 / 2 / 2 / 2) (by omega),zi0 (n:=n / 2 / 2 / 2 / 2 / 2 / 2 / 2) (by omega)];rw [show n / 2 / 2 / 2 / 2 / 2 / 2 / 2 / 2=n / 256 by omega];omega
theorem zz5 {n:Nat} (h:n<65536):zu0 n<=16:=by
  unfold zu0;split
  . omega
  . have:ks n<16:=(Nat.log2_lt (by omega)).2 h;omega
def ype (b:ByteArray):Bool:=(List.range 256).all fun k=>if h:k<b.size then gc b[k].toNat (zu0 k) else true
theorem ybg {b:ByteArray} (hb:ype b=true) {k:Nat} (hk:k<256) (h:k<b.size):b[k].toNat=zu0 k:=by
  have:=List.all_eq_true.1 hb k (List.mem_range.2 hk);rw [dif_pos h] at this;exact fq this
theorem z58 (n:Int) (h:-9223372036854775808<=n/\n<=9223372036854775807):qg n=n:=by unfold qg;omega
theorem wrapL {n:Nat} (h:n<=64):qg (qg (n:Int))=n:=by rw [z58 (n:Int) (by omega),z58 _ (by omega)]
set_option maxRecDepth 100000 in
set_option maxHeartbeats 2000000 in
theorem yar (n:Nat) (W:World) (hn:n<65536):Calls Try.prog 97 #[.int .u16 n] W fun e W'=>e=.returned (.int .i64 (zu0 n))/\W'=W:=by
  go_enter Try.func97,Try.ntmps97
  by_cases h:n<256
  . go_wp2
    go_ret
    refine ⟨?_,rfl⟩;clear W;refine congrArg (fun z=>Ending.returned (.int .i64 z)) ?_;rw [ybg (by decide +kernel) h];exact wrapL (Nat.le_trans (zz5 hn) (by decide))
  . go_wp2
    go_ret
    refine ⟨?_,rfl⟩;clear W;refine congrArg (fun z=>Ending.returned (.int .i64 z)) ?_;have hk:n / 256<256:=by omega
    have h1:=zz5 (n:=n / 256) (by omega);rw [yhr (by omega),ybg (by decide +kernel) hk,z58 ((zu0 (n / 256):Nat):Int) (by omega),z58 _ (by omega)];rfl
set_option maxRecDepth 100000 in
set_option maxHeartbeats 2000000 in
theorem yfu (n z:Nat) (W:World) (hn:n<65536) (h0:n≠0) (hz:z=15 - ks n):Calls Try.prog 94 #[.int .u16 n] W fun e W'=>e=.returned (.int .i64 (z:Int))/\W'=W:=by
  have h16:=zz5 hn;have hl:zu0 n=ks n+1:=by unfold zu0;rw [zAd h0]
  go_enter Try.func94,Try.ntmps94
  go_wp2_with (refine (yar _ _ hn).mono ?_;rintro e w' ⟨rfl,rfl⟩)
  go_ret
  refine ⟨?_,rfl⟩;refine congrArg (fun z=>Ending.returned (.int .i64 z)) ?_;omega
theorem yev {v:Value} {m:Nat} (h:i64N v=some m):v=.int .i64 (m:Nat)/\m<9223372036854775808:=by
  unfold i64N at h;split at h
  . rename_i k m';rw [zcn] at h;split at h
    . rename_i h1;simp only [fo] at h1
      have hk:k=.i64:=by
        have:=fq h1.1;cases k<;>first|rfl | (exact absurd this (by decide))
      subst hk;cases h;exact ⟨rfl,zae.1 h1.2⟩
    . cases h
  . cases h
theorem zoa:∀ {n:Nat} {cs:List Value} {l:List Nat},zgy n cs=some l->l.length=n/\(∀ j,(h:j<l.length)->l[j]<9223372036854775808)/\∀ j,(h:j<l.length)->cs[j]?=some (.int .i64 (l[j]:Nat))
  |0,cs,l,h=>by
    cases cs<;>(simp only [zgy,fi] at h;subst h;exact ⟨rfl,fun j h=>absurd h (mn _),fun j h=>absurd h (mn _)⟩)
  |n+1,[],l,h=>by simp [zgy] at h
  |n+1,v :: cs,l,h=>by
    rw [zgy] at h
    cases hv:i64N v with
    |none=>rw [hv] at h;cases h
    |some m =>
      cases hr:zgy n cs with
      |none=>rw [hv,hr] at h;cases h
      |some r =>
        rw [hv,hr] at h;cases h;obtain ⟨rfl,hm⟩:=yev hv;obtain ⟨a,b,c⟩:=zoa hr;refine ⟨by rw [gp,a],fun j hj=>?_,fun j hj=>?_⟩
        . cases j with
          |zero=>exact hm
          |succ j=>exact b j (by simpa using hj)
        . cases j with
          |zero=>rfl
          |succ j=>simpa using c j (by simpa using hj)
def ygb (W:World) (v:Value) (l:List Nat):Prop:=∃ b o:Nat,v=.pointer (some ⟨b,o,none⟩)/\(∀ j,(h:j<l.length)->l[j]<9223372036854775808)/\∀ j,(h:j<l.length)->W.cell? ⟨b,o+j,none⟩=some (.int .i64 (l[j]:Nat))
theorem zl4 {n:Nat} {s s':CS} {v:Value} {l:List Nat} (h:zku n s v=some (l,s')):Can s s'/\s'.obj=s.obj/\s'.n=s.n:=by
  unfold zku at h;split at h
  . split at h
    . rename_i hr;split at h
      . simp only [fi,ft] at h;obtain ⟨rfl,rfl⟩:=h;refine ⟨zn7 hr,?_,?_⟩<;>(rw [(zdg hr).2])
      . cases h
    . cases h
  . cases h
theorem zuo {n:Nat} {s s':CS} {v v':Value} {l:List Nat} {σ:Sg} {V:Nat->Prop} {W:World} (h:zku n s v=some (l,s')) (hv:VR σ v v') (hr:Rel σ V s W) (hV:zco V s'):l.length=n/\ygb W v' l:=by
  unfold zku at h;split at h
  . rename_i a;split at h
    . rename_i cs s1 hrr;split at h
      . rename_i l1 hl;simp only [fi,ft] at h;obtain ⟨rfl,rfl⟩:=h;obtain ⟨b,o,z,h1,rfl⟩:=hv.ptr;have hrow:=zpw hrr hr hV h1;obtain ⟨a1,a2,a3⟩:=zoa hl;refine ⟨a1,b,o+a.off,rfl,a2,fun j hj=>?_⟩;have:=a3 j hj;rw [lj] at this;obtain ⟨u',k1,k2⟩:=hrow.2.2.2 _ _ this;rw [k2.int] at k1;rw [Nat.add_assoc];exact k1
      . cases h
    . cases h
  . cases h
theorem yg6 {caps:List Value} {s s':CS} {k:List Nat} (h:zkg.key caps s=some (k,s')):Can s s'/\s'.obj=s.obj/\s'.n=s.n:=by
  unfold zkg at h;dsimp only at h;split at h
  . split at h
    . rename_i h1;split at h
      . rename_i h2;simp only [fi,ft] at h;obtain ⟨rfl,rfl⟩:=h;obtain ⟨c1,o1,n1⟩:=zl4 h1;obtain ⟨c2,o2,n2⟩:=zl4 h2;exact ⟨c1.trans c2,o2.trans o1,n2.trans n1⟩
      . cases h
    . cases h
  . cases h
theorem z7b {caps':Array Value} {k:List Nat} {W:World} (h:Now zkg caps' k W):∃ p q l m,caps'=#[p,q]/\k=l++m/\l.length=10/\m.length=10/\ygb W p l/\ygb W q m:=by
  obtain ⟨σ,V,s,s1,caps,h1,h2,h3,h4,h5⟩:=h;unfold zkg at h5;dsimp only at h5;split at h5
  . rename_i p q;split at h5
    . rename_i l s2 hp;split at h5
      . rename_i m s3 hq;simp only [fi,ft] at h5;obtain ⟨rfl,rfl⟩:=h5;obtain ⟨xs⟩:=caps'
        match xs,h1 with
        |[p',q'],h1 =>
          obtain ⟨v1,v2,_⟩:=h1;obtain ⟨c2,o2,n2⟩:=zl4 hq;obtain ⟨c1,o1,n1⟩:=zl4 hp;obtain ⟨a1,a2⟩:=zuo hp v1 h2 (h3.back c2);obtain ⟨b1,b2⟩:=zuo hq v2 (h2.state o1 n1) h3;exact ⟨p',q',l,m,rfl,rfl,a1,b1,a2,b2⟩
      . cases h5
    . cases h5
  . cases h5
/-! the bits of a word -/
theorem yat (f:Nat):zvv f 0=[]:=by cases f<;>rfl
theorem yau {f w:Nat} (h:w≠0):zvv (f+1) w=(15 - ks w) :: zvv f (w - 2 ^ ks w):=by
  rw [zvv,zi7 h,z1d];rfl
theorem ya6 {f w:Nat} (h:w≠0) (hw:w<2 ^ f):w - 2 ^ ks w<2 ^ (f - 1)/\w - 2 ^ ks w<w/\1<=f:=by
  have h1:ks w<f:=(Nat.log2_lt h).2 hw;have h2:w<2 ^ (ks w+1):=Nat.lt_log2_self;have h3:2 ^ ks w<=w:=qh h;have h4:2 ^ ks w<=2 ^ (f - 1):=md (by decide) (by omega);have h5:0<2 ^ ks w:=Nat.two_pow_pos _;rw [Nat.pow_succ] at h2;exact ⟨by omega,by omega,by omega⟩
theorem z94:∀ {i:Nat} {l m:List Nat},(h:i<l.length)->(h2:i<m.length)->∀ s,zo2 (s+i) (l.drop i) (m.drop i)=(zvv 17 ((l[i] - (l[i] &&& m[i])) % 65536)).map (16*(s+i)+·)++zo2 (s+i+1) (l.drop (i+1)) (m.drop (i+1)):=by
  intro i l m h h2 s;rw [ky h,ky h2,zo2];rfl
theorem yid {w:Nat} (x y:BitVec w):x &&& ~~~y=x - (x &&& y):=by
  have h1:(x &&& ~~~y) &&& (x &&& y)=0#w:=by
    apply BitVec.eq_of_getLsbD_eq;intro i hi;simp only [BitVec.getLsbD_and,BitVec.getLsbD_not,hi,decide_true,kh,BitVec.getLsbD_zero];cases x.getLsbD i<;>cases y.getLsbD i<;>rfl
  have h2:(x &&& ~~~y) ||| (x &&& y)=x:=by
    apply BitVec.eq_of_getLsbD_eq;intro i hi;simp only [BitVec.getLsbD_or,BitVec.getLsbD_and,BitVec.getLsbD_not,hi,decide_true,kh];cases x.getLsbD i<;>cases y.getLsbD i<;>rfl
  have h3:=BitVec.add_eq_or_of_and_eq_zero _ _ h1;rw [h2] at h3;exact BitVec.eq_sub_iff_add_eq.2 h3
theorem zpa (w:Nat) {a b:Nat} (ha:a<2 ^ w) (hb:b<2 ^ w):a &&& (2 ^ w - 1 - b)=a - (a &&& b):=by
  have h:=congrArg BitVec.toNat (yid (BitVec.ofNat w a) (BitVec.ofNat w b));rw [ou,BitVec.toNat_not,pt,pt,nu ha,nu hb,BitVec.toNat_sub_of_le,ou,pt,pt,nu ha,nu hb] at h
  . exact h
  . rw [BitVec.le_def,ou];exact Nat.and_le_left
theorem zyv {a b:Nat} (ha:a<9223372036854775808) (hb:b<9223372036854775808):bits .andNot .i64 (a:Int) (b:Int)=((a - (a &&& b):Nat):Int):=by
  have h:=zpa 64 (a:=a) (b:=b) (by omega) (by omega);show fm.wrap ((jd 64 (a:Int) &&& ~~~jd 64 (b:Int)).toNat:Int)=_;rw [ou,BitVec.toNat_not,lw,lw];rw [show ((a:Int) % ((2 ^ 64:Nat):Int)).toNat=a by omega,show ((b:Int) % ((2 ^ 64:Nat):Int)).toNat=b by omega,h];have hc:a - (a &&& b)<9223372036854775808:=by omega
  generalize a - (a &&& b)=c at *;simp [IntKind.wrap,IntKind.bits,IntKind.signed];split<;>omega
section
open Go Go.RowKit Go.Shelf
attribute [local go_sem] Oper.semAt_some
theorem ynz (n:Nat):IntKind.u16.wrap (n:Int)=((n % 65536:Nat):Int):=by
  rw [IntKind.wrap_u16];omega
theorem yfn {w k:Nat} (hw:w<65536) (h0:w≠0) (hk:k=ks w):bits .andNot .u16 (w:Int) (IntKind.u16.wrap (2 ^ k))=((w - 2 ^ k:Nat):Int):=by
  subst hk;have h1:=qh h0;have h2:(2:Int) ^ ks w=((2 ^ ks w:Nat):Int):=by rw [Int.natCast_pow];rfl
  rw [h2,ynz,nu (by omega),u16_andNot_nat _ _ hw (by omega)];rw [show 65535 - 2 ^ ks w=2 ^ 16 - 1 - 2 ^ ks w from rfl,zpa 16 hw (by omega),show w &&& 2 ^ ks w=2 ^ ks w from ?_];apply Nat.eq_of_testBit_eq;intro i;rw [Nat.testBit_and,Nat.testBit_two_pow];by_cases h:ks w=i
  . rw [<- h,Nat.testBit_log2 h0];simp
  . simp [h]
set_option maxRecDepth 100000 in
set_option maxHeartbeats 4000000 in
theorem ydf (caps':Array Value) (k:List Nat) (kd l:Nat) (J:List (Nat×Obj)->Nat->World->Prop) (Jx:World->Prop) (W:World)
    (hN:∀ K j W1,J K j W1->Now zkg caps' k W1)
    (hY:∀ kd' K j x W1,(zkg.xs k)[j]?=some x->J K j W1->YieldAt mo kd' Try.prog l x.toArray W1 fun e W'=>(e=.returned (.bool true)/\J K (j+1) W')\/(e=.returned (.bool false)/\Jx W'))
    (hB:∀ K j W1 W2,J K j W1->Below W1.heap.size W1 W2->J K j W2) (h0:J [] 0 W):CallsIn mo kd Try.prog 93 (#[.func (.yield l) #[] #[]]++caps') W fun e W'=>(∃ v,e=.returned v)/\((∃ K,J K (zkg.xs k).length W')\/Jx W'):=by
  obtain ⟨p,q,L,M,rfl,rfl,hL,hM,hp,hq⟩:=z7b (hN [] 0 W h0);obtain ⟨b1,o1,rfl,hLm,hp⟩:=hp;obtain ⟨b2,o2,rfl,hMm,hq⟩:=hq
  have hcells:∀ j W1,J [] j W1->(∀ i,(h:i<L.length)->W1.cell? ⟨b1,o1+i,none⟩=some (.int .i64 (L[i]:Nat)))/\(∀ i,(h:i<M.length)->W1.cell? ⟨b2,o2+i,none⟩=some (.int .i64 (M[i]:Nat))):=by
    intro j W1 hj;obtain ⟨p,q,L',M',e1,e2,hL',hM',hp',hq'⟩:=z7b (hN [] j W1 hj);obtain ⟨rfl,rfl⟩:=List.append_inj e2 (by rw [hL,hL']);obtain ⟨b1',o1',rfl,_,hp'⟩:=hp';obtain ⟨b2',o2',rfl,_,hq'⟩:=hq';simp only [Array.mk.injEq,o6,Value.pointer.injEq,fi,Addr.mk.injEq,and_true] at e1;obtain ⟨⟨rfl,rfl⟩,rfl,rfl⟩:=e1;exact ⟨hp',hq'⟩
  show CallsIn mo kd Try.prog 93 #[.func (.yield l) #[] #[],.pointer (some ⟨b1,o1,none⟩),.pointer (some ⟨b2,o2,none⟩)] W _;obtain ⟨X,hX⟩:∃ X,X=zkg.xs (L++M):=⟨_,rfl⟩
  have HX:X=(zo2 0 L M).map fun n=>[.int .i64 (.ofNat n)]:=by
    rw [hX];show (zo2 0 ((L++M).take 10) ((L++M).drop 10)).map _=_;rw [ke (by omega),il (by omega),qp (by omega),i7 (by omega),gm]
  rw [<- hX] at hY ⊢;refine callsIn_of_wp Try.func93 rfl trivial ?_ rfl;simp only [Try.ntmps93,List.size_toArray,gp,jk,gb,i9,Array.replicate_succ,Array.replicate_zero,List.push_toArray,List.append_toArray,gm,gz]
  gi_wp2
  gi_loopw [7] (fun v wr=>∃ i j:Nat,j<=X.length/\i<=10/\v=.int .i64 i/\J [] j wr/\X.drop j=(zo2 i (L.drop i) (M.drop i)).map fun n=>[.int .i64 (.ofNat n)])
    (fun v _=>10 - (intOf v).toNat)
  case atStart=>exact ⟨0,0,iy _,iy _,rfl,h0,by rw [gt,gt,gt];exact HX⟩
  case round =>
    obtain ⟨i,j,hjX,hi,rfl,hJ,hd⟩:=hrel;by_cases hlt:i<10
    . obtain ⟨c1,c2⟩:=hcells j _ hJ;have h1:=c1 i (by omega);have h2:=c2 i (by omega);have a1:=hLm i (by omega);have a2:=hMm i (by omega);have hod:=z94 (i:=i) (l:=L) (m:=M) (by omega) (by omega) 0;rw [jb] at hod;have han:=zyv a1 a2;have hle:L[i] - (L[i] &&& M[i])<9223372036854775808:=by omega
      gi_wp2
      gi_region
      rw [ynz]
      gi_wp2
      have hJ':=hB [] j wr wr.drew hJ ((Below.refl wr.heap.size wr).drew);clear hJ hcells c1 c2 h1 h2;obtain ⟨w0,hw0⟩:∃ w0,w0=(L[i] - (L[i] &&& M[i])) % 65536:=⟨_,rfl⟩;rw [<- hw0] at hod ⊢;have hw1:w0<65536:=by omega
      rw [hod] at hd;clear hod han hle hw0 a1 a2;obtain ⟨R,hR⟩:∃ R,R=zo2 (i+1) (L.drop (i+1)) (M.drop (i+1)):=⟨_,rfl⟩;rw [<- hR] at hd
      gi_loopw [5] (fun v wr=>∃ w f j:Nat,j<=X.length/\v=.int .u16 w/\w<2 ^ f/\f<=16/\J [] j wr/\X.drop j=((zvv (f+1) w).map (fun x=>16*i+x)++R).map fun n=>[.int .i64 (.ofNat n)])
        (fun v _=>(intOf v).toNat)
      case atStart=>exact ⟨w0,16,j,hjX,rfl,hw1,fx _,hJ',hd⟩
      case round =>
        obtain ⟨w,f,j,hjX,rfl,hw,hf,hJ,hd⟩:=hrel;have hw2:w<65536:=Nat.lt_of_lt_of_le hw (md (by decide) hf);by_cases h0:w=0
        . subst h0;rw [yat,pj,gm,hR] at hd
          gi_wp2
          go_roundw
          case rel=>exact ⟨i+1,j,hjX,by omega,by go_num,hJ,hd⟩
          case measure=>simp [intOf];omega
        . obtain ⟨q1,q2,q3⟩:=ya6 h0 hw;obtain ⟨z,hz⟩:∃ z,z=15 - ks w:=⟨_,rfl⟩;have hz15:z<=15:=by omega
          have hlg:ks w<=15:=by
            have:=(Nat.log2_lt h0).2 (show w<2 ^ 16 by omega);omega
          obtain ⟨w2,hw2e⟩:∃ w2,w2=w - 2 ^ ks w:=⟨_,rfl⟩;rw [yau h0,<- hz,<- hw2e,ja,gz,ja] at hd
          have hjl:j<X.length:=by
            have:=congrArg List.length hd;simp at this;omega
          rw [ky hjl] at hd;obtain ⟨hd1,hd2⟩:=List.cons.inj hd;have hx:X[j]?=some [.int .i64 (.ofNat (16*i+z))]:=by rw [fp hjl,hd1]
          obtain ⟨fn,tmps,assign,body,hy,hR1⟩:=hY (kd - 1) [] j _ wr hx hJ;have hcall:=yfu w z wr hw2 h0 hz;have hcl:=yfn (k:=15 - z) hw2 h0 (by omega);rw [show 15 - z=ks w by omega,<- hw2e,show ks w=15 - z by omega] at hcl
          have hpw:2 ^ (15 - z)<=w/\2 ^ (15 - z)<65536:=by
            have e:15 - z=ks w:=by omega
            rw [e];exact ⟨qh h0,Nat.lt_of_le_of_lt (qh h0) hw2⟩
          rw [<- hw2e] at q1 q2;clear hz hw2e hlg;rw [show qu (16*i+z)=16*(i:Int)+(z:Int) from by simp] at hy;clear hd
          gi_wp2_with (refine ⟨trivial,fun hq=>absurd hq (by simp [mo]),(callsIn_wide.2 hcall).mono ?_⟩;rintro e w' ⟨rfl,rfl⟩)
          refine ⟨fun hq=>absurd hq (by simp [mo]),hR1.mono ?_⟩;rintro e W3 (⟨rfl,hJ3⟩|⟨rfl,hJx3⟩)
          . gi_wp2
            go_roundw
            case rel =>
              exact ⟨w2,f - 1,j+1,by omega,rfl,q1,by omega,hJ3,by rw [hd2,Nat.sub_add_cancel q3]⟩
            case measure =>
              show (w2:Int).toNat<(w:Int).toNat
              omega
          . gi_wp2
            refine bodyPost_ret (results_none rfl _ _ _) rfl ?_;exact ⟨⟨_,rfl⟩,.inr hJx3⟩
    . obtain rfl:i=10:=by omega
      gi_wp2
      go_end0
      rw [i7 (show L.length<=10 by omega)] at hd
      have hjX2:X.length<=j:=by
        have:=congrArg List.length hd;simp [zo2] at this;omega
      obtain rfl:j=X.length:=Nat.le_antisymm hjX hjX2;exact ⟨⟨_,rfl⟩,.inl ⟨_,hJ⟩⟩
theorem ymm:ItOk Try.prog 93 zkg where
  can:=fun caps s k s' h _=>yg6 h
  plain:=fun k x hx σ=>by
    obtain ⟨n,_,rfl⟩:=jq.1 hx;exact ⟨px _ _,trivial⟩
  enter:=enters_of Try.func93 (by kernel_rfl) rfl
  runs:=fun caps' k kd l J Jx W h1 h2 _ _ _ h4 h5=>ydf caps' k kd l J Jx W h1 h4 h2 h5
end
theorem zuu:∀ {n:Nat} {cs:List Value} {L:List Nat},zkv n cs=some L->L.length=10*n/\∀ i,i<n->zgy 10 (cs.drop (23*i+1))=some (zey L i)
  |0,cs,L,h=>by
    simp only [zkv,fi] at h;subst h;exact ⟨rfl,fun i hi=>absurd hi (mn _)⟩
  |n+1,cs,L,h=>by
    rw [zkv] at h
    cases hl:zgy 10 (cs.drop 1) with
    |none=>rw [hl] at h;cases h
    |some l =>
      cases hr:zkv n (cs.drop 23) with
      |none=>rw [hl,hr] at h;cases h
      |some r =>
        rw [hl,hr] at h;simp only [fi] at h;subst h;obtain ⟨h1,h2⟩:=zuu hr;have h3:=(zoa hl).1;refine ⟨by rw [f7,h1,h3];omega,fun i hi=>?_⟩
        cases i with
        |zero =>
          rw [Nat.mul_zero,jb,hl];unfold zey;rw [Nat.mul_zero,gt,<- h3,List.take_left]
        |succ i =>
          have:=h2 i (by omega);rw [l6] at this;rw [show 23*(i+1)+1=23+(23*i+1) by omega,this];unfold zey;rw [mu,i7 (l:=l) (by omega),gm,h3,show 10*(i+1) - 10=10*i by omega]
def yno (W:World) (p:Option Addr) (n:Nat) (L:List Nat):Prop:=0<n->∃ b o,p=some ⟨b,o,none⟩/\∀ i,i<n->(zey L i).length=10/\∀ j,(h:j<(zey L i).length)->W.cell? ⟨b,o+23*i+1+j,none⟩=some (.int .i64 ((zey L i)[j]:Nat))
theorem zwy {s s':CS} {v:Value} {l:List Nat} (h:zrt s v=some (l,s')):Can s s'/\s'.obj=s.obj/\s'.n=s.n:=by
  unfold zrt at h;split at h
  . cases h;exact ⟨Can.refl _,rfl,rfl⟩
  . split at h
    . rename_i hr;split at h
      . obtain ⟨_,h⟩:=zei h;simp only [fi,ft] at h;obtain ⟨rfl,rfl⟩:=h;refine ⟨zn7 hr,?_,?_⟩<;>(rw [(zdg hr).2])
      . cases h
    . cases h
  . cases h
theorem z9n {s s':CS} {v v':Value} {k:List Nat} {σ:Sg} {V:Nat->Prop} {W:World} (h:zrt s v=some (k,s')) (hv:VR σ v v') (hr:Rel σ V s W) (hV:zco V s'):∃ n L p c,k=n :: L/\n<1000000000/\v'=.slice p n c/\yno W p n L:=by
  unfold zrt at h;split at h
  . rename_i p c;simp only [fi,ft] at h;obtain ⟨rfl,rfl⟩:=h
    cases p with
    |none =>
      obtain ⟨_,_,rfl⟩:=hv.out;exact ⟨0,[],_,_,rfl,by decide,rfl,fun h=>absurd h (Nat.lt_irrefl _)⟩
    |some a =>
      obtain ⟨b,o,z,h1,a',c',rfl,_⟩:=hv.out;exact ⟨0,[],_,_,rfl,by decide,rfl,fun h=>absurd h (Nat.lt_irrefl _)⟩
  . rename_i a n c;split at h
    . rename_i cs s1 hrr;split at h
      . rename_i l hl;obtain ⟨hn,h⟩:=zei h;simp only [fi,ft] at h;obtain ⟨rfl,rfl⟩:=h;obtain ⟨b,o,z,h1,a',c',rfl,k1,k2,k3,k4,_⟩:=hv.out;have hrow:=zpw hrr hr hV h1;have ha:=k4 (by omega);subst ha;refine ⟨n+1,l,_,c',rfl,zae.1 hn,rfl,fun _=>⟨b,o+a.off,rfl,fun i hi=>?_⟩⟩;have h3:=(zuu hl).2 i hi;obtain ⟨a1,a2,a3⟩:=zoa h3;refine ⟨a1,fun j hj=>?_⟩;have:=a3 j hj;rw [l6,lj] at this;obtain ⟨u',q1,q2⟩:=hrow.2.2.2 _ _ this;rw [q2.int] at q1;rw [show o+a.off+23*i+1+j=o+(a.off+(23*i+1)+j) by omega];exact q1
      . cases h
    . cases h
  . cases h
theorem ydw {caps:List Value} {s s':CS} {k:List Nat} (h:zg9.key caps s=some (k,s')):Can s s'/\s'.obj=s.obj/\s'.n=s.n:=by
  unfold zg9 at h;dsimp only at h;split at h
  . split at h
    . rename_i hr;split at h
      . obtain ⟨c2,o2,n2⟩:=zwy h;have e:=(zdg hr).2;exact ⟨(zn7 hr).trans c2,by rw [o2,e],by rw [n2,e]⟩
      . cases h
    . cases h
  . cases h
theorem z2e {caps':Array Value} {k:List Nat} {W:World} (h:Now zg9 caps' k W):∃ bt ot n L p c,caps'=#[.pointer (some ⟨bt,ot,none⟩)]/\k=n :: L/\n<1000000000/\W.cell? ⟨bt,ot,none⟩=some (.slice p n c)/\yno W p n L:=by
  obtain ⟨σ,V,s,s1,caps,h1,h2,h3,h4,h5⟩:=h;unfold zg9 at h5;dsimp only at h5;split at h5
  . rename_i a;split at h5
    . rename_i cs s2 hrr;split at h5
      . rename_i v rest hd;obtain ⟨xs⟩:=caps'
        match xs,h1 with
        |[p'],h1 =>
          obtain ⟨v1,_⟩:=h1;obtain ⟨b,o,z,q1,rfl⟩:=v1.ptr;obtain ⟨c2,o2,n2⟩:=zwy h5;have hrow:=zpw hrr h2 (h3.back c2) q1;have e:=(zdg hrr).2
          have hv:cs[a.off]?=some v:=by
            have:=lj (xs:=cs) (i:=a.off) (j:=0);rw [hd] at this;simpa using this.symm
          obtain ⟨u',w1,w2⟩:=hrow.2.2.2 _ _ hv;obtain ⟨n,L,p,c,rfl,k2,rfl,k4⟩:=z9n h5 w2 (h2.state (by rw [e]) (by rw [e])) h3;exact ⟨b,o+a.off,n,L,p,c,rfl,rfl,k2,w1,k4⟩
      . cases h5
    . cases h5
  . cases h5
/-! what the iterator yields, by its place -/
theorem sN_t:∀ {l m:List Nat},l=m->zh7 l m=true
  |[],_,h=>by subst h;rfl
  |a :: l,_,h=>by subst h;rw [zh7,sN_t rfl,Nat.beq_refl];rfl
theorem sN_f {l m:List Nat} (h:l≠m):zh7 l m=false:=by
  cases hb:zh7 l m with
  |false=>rfl
  |true=>exact absurd (zt2 hb).symm h
theorem zi5:∀ n,(zi6 n).length=n
  |0=>rfl
  |n+1=>by rw [zi6,f7,zi5 n];rfl
theorem z3b:∀ {n i:Nat},i<n->(zi6 n)[i]?=some (zwd 1 i 0)
  |0,i,h=>absurd h (mn _)
  |n+1,i,h=>by
    rw [zi6];by_cases hi:i<n
    . rw [gq (by rw [zi5];exact hi),z3b hi]
    . have:i=n:=by omega
      subst this;rw [iw (by rw [zi5];exact fx _),zi5,Nat.sub_self];rfl
theorem z1y (l:List Nat) (k:Nat):∀ {i j:Nat},i<=j->∃ r,zjd l k j=zjd l k i++r
  |i,0,h=>⟨[],by rw [show i=0 by omega];rfl⟩
  |i,j+1,h=>by
    by_cases hi:i=j+1
    . exact ⟨[],by rw [hi,ic]⟩
    . obtain ⟨r,hr⟩:=z1y l k (i:=i) (j:=j) (by omega);exact ⟨_,by rw [zjd,hr,gr]⟩
theorem yf4 (l:List Nat):∀ {i j:Nat},i<=j->∃ r,zcz l j=zcz l i++r
  |i,0,h=>⟨[],by rw [show i=0 by omega];rfl⟩
  |i,j+1,h=>by
    by_cases hi:i=j+1
    . exact ⟨[],by rw [hi,ic]⟩
    . obtain ⟨r,hr⟩:=yf4 l (i:=i) (j:=j) (by omega);exact ⟨_,by rw [zcz,hr,gr]⟩
noncomputable def posF (n:Nat) (l:List Nat) (k i:Nat):Nat:=n+((zcz l k).length+(zjd l k i).length)
theorem ymg {n k i:Nat} {l:List Nat} (hk:k<n) (hi:i<k) (he:zey l i=zey l k) (z:Nat) (hz:z<2):(zi6 n++zcz l n)[posF n l k i+z]?=some (zwd (2+z) i k):=by
  obtain ⟨r1,h1⟩:=yf4 l (i:=k+1) (j:=n) (by omega);obtain ⟨r2,h2⟩:=z1y l k (i:=i+1) (j:=k) (by omega);rw [h1,zcz,h2,zjd,sN_t he,zbe];unfold posF;rw [iw (by rw [zi5];omega),zi5,show n+((zcz l k).length+(zjd l k i).length)+z - n=(zcz l k).length+((zjd l k i).length+z) by omega];rw [gr,iw (by omega),Nat.add_sub_cancel_left,gr,gr,iw (by omega),Nat.add_sub_cancel_left]
  match z,hz with
  |0,_=>rfl
  |1,_=>rfl
theorem yg3 {n k i:Nat} {l:List Nat} (he:zey l i=zey l k):posF n l k (i+1)=posF n l k i+2:=by
  unfold posF;rw [zjd,sN_t he,zbe,f7];rfl
theorem yg2 {n k i:Nat} {l:List Nat} (he:zey l i≠zey l k):posF n l k (i+1)=posF n l k i:=by
  unfold posF;rw [zjd,sN_f he,z1d,ic]
theorem yoi {n k:Nat} {l:List Nat}:posF n l (k+1) 0=posF n l k k:=by
  unfold posF;rw [zcz,f7];rfl
theorem ymh {n:Nat} {l:List Nat}:posF n l n 0=(zi6 n++zcz l n).length:=by
  unfold posF;rw [f7,zi5];rfl
section
open Go Go.RowKit Go.Shelf
attribute [local go_sem] Oper.semAt_some
def nV (l:List Nat):List Value:=l.map fun x=>.int .i64 (x:Nat)
theorem z43:∀ {n:Nat} {l:List Nat},l.length=n->zep (gh n (.int .i64)) (nV l)=true
  |0,[],_=>rfl
  |n+1,x :: l,h=>by
    rw [jh,nV,ja,zep];have:=z43 (n:=n) (l:=l) (by simpa using h);rw [nV] at this;rw [this];rfl
  |0,_ :: _,h=>by simp at h
  |_+1,[],h=>by simp at h
theorem you:∀ {l m:List Nat},l.length=m.length->eqVs (nV l) (nV m)=decide (l=m)
  |[],[],_=>by simp [nV,eqVs]
  |x :: l,y :: m,h=>by
    have ih:=you (l:=l) (m:=m) (by simpa using h);rw [nV,nV] at ih;rw [nV,nV,ja,ja,eqVs,ih];by_cases hx:x=y
    . subst hx;simp [znr]
    . have:znr (.int .i64 (x:Nat)) (.int .i64 (y:Nat))=false:=by simp only [znr];rw [beq_eq_false_iff_ne];omega
      rw [this];simp [hx]
  |[],_ :: _,h=>by simp at h
  |_ :: _,[],h=>by simp at h
theorem ypq {P:gw} {t:gu} {sh:List CK} {xs ys:List Value} {r:Bool} (hs:zg6 P 10000 t=some (true,sh)) (hx:zep sh xs=true) (hy:zep sh ys=true) (hr:eqVs xs ys=r) (w:World):(lf 10000 t (.agg xs.toArray) (.agg ys.toArray)).run P w=.ok r w :=
  z25 (by rw [<- hr];exact yk8 10000 hs hx hy) w
theorem yew {l m:List Nat} (hl:l.length=10) (hm:m.length=10) {r:Bool} (hr:decide (l=m)=r) (w:World):(lf 10000 43 (.agg (nV l).toArray) (.agg (nV m).toArray)).run Try.prog w=.ok r w :=
  ypq (sh:=gh 10 (.int .i64)) (by kernel_rfl) (z43 hl) (z43 hm) ((you (by rw [hl,hm])).trans hr) w
theorem yfp {W:World} {b o:Nat} {l:List Nat} (hl:l.length=10) (h:∀ j,(hj:j<l.length)->W.cell? ⟨b,o+j,none⟩=some (.int .i64 (l[j]:Nat))):∃ x0 x1 x2 x3 x4 x5 x6 x7 x8 x9:Nat,l=[x0,x1,x2,x3,x4,x5,x6,x7,x8,x9]/\∀ j,(hj:j<10)->W.cell? ⟨b,o+j,none⟩=some (.int .i64 ([x0,x1,x2,x3,x4,x5,x6,x7,x8,x9][j]:Nat)):=by
  match l,hl with
  |[x0,x1,x2,x3,x4,x5,x6,x7,x8,x9],_=>exact ⟨x0,x1,x2,x3,x4,x5,x6,x7,x8,x9,rfl,fun j hj=>h j hj⟩
theorem z2f {σ:Sg} (a b c:Nat):VR σ (.agg #[.int .i64 (.ofNat a),.int .i64 (.ofNat b),.int .i64 (.ofNat c)]) (.agg #[.int .i64 (.ofNat a),.int .i64 (.ofNat b),.int .i64 (.ofNat c)]):=VR.mk ⟨_,rfl,px _ _,px _ _,px _ _,trivial⟩
set_option maxRecDepth 100000 in
set_option maxHeartbeats 4000000 in
theorem z98 (caps':Array Value) (k:List Nat) (kd l:Nat) (J:List (Nat×Obj)->Nat->World->Prop) (Jx:World->Prop) (W:World)
    (hN:∀ K j W1,J K j W1->Now zg9 caps' k W1)
    (hK:∀ K j W1 W2 b o,J K j W1->Below W1.heap.size W1 W2->W1.heap.size<=b->W2.heap[b]?=some o->J ((b,o) :: K) j W2) (hk:∀ K j W1 b o,J K j W1->(b,o)∈K->W1.heap[b]?=some o)
    (hY:∀ kd' K j x W1,(zg9.xs k)[j]?=some x->J K j W1->YieldAt mo kd' Try.prog l x.toArray W1 fun e W'=>(e=.returned (.bool true)/\J K (j+1) W')\/(e=.returned (.bool false)/\Jx W'))
    (hB:∀ K j W1 W2,J K j W1->Below W1.heap.size W1 W2->J K j W2) (h0:J [] 0 W):CallsIn mo kd Try.prog 66 (#[.func (.yield l) #[] #[]]++caps') W fun e W'=>(∃ v,e=.returned v)/\((∃ K,J K (zg9.xs k).length W')\/Jx W'):=by
  obtain ⟨bt,ot,n,L,p0,c0,rfl,rfl,hn,hc0,ht0⟩:=z2e (hN [] 0 W h0)
  have hcells:∀ K j W1,J K j W1->∃ p c,W1.cell? ⟨bt,ot,none⟩=some (.slice p n c)/\yno W1 p n L:=by
    intro K j W1 hj;obtain ⟨bt',ot',n',L',p,c,e1,e2,_,h3,h4⟩:=z2e (hN K j W1 hj);simp only [Array.mk.injEq,o6,Value.pointer.injEq,fi,Addr.mk.injEq,and_true] at e1 e2;obtain ⟨rfl,rfl⟩:=e1;obtain ⟨rfl,rfl⟩:=e2;exact ⟨p,c,h3,h4⟩
  clear ht0;show CallsIn mo kd Try.prog 66 #[.func (.yield l) #[] #[],.pointer (some ⟨bt,ot,none⟩)] W _;have hX:zg9.xs (n :: L)=zi6 n++zcz L n:=rfl;rw [hX] at hY ⊢;refine callsIn_of_wp Try.func66 rfl trivial ?_ rfl;simp only [Try.ntmps66,List.size_toArray,gp,jk,gb,i9,Array.replicate_succ,Array.replicate_zero,List.push_toArray,List.append_toArray,gm,gz]
  gi_wp2
  gi_loopw [10] (fun v wr=>∃ i:Nat,i<=n/\v=.int .i64 i/\J [] i wr) (fun v _=>n - (intOf v).toNat)
  case atStart=>exact ⟨0,iy _,rfl,h0⟩
  case round =>
    obtain ⟨i,hi,rfl,hJ⟩:=hrel;by_cases hlt:i<n
    . have hx:(zi6 n++zcz L n)[i]?=some (zwd 1 i 0):=by rw [gq (by rw [zi5];exact hlt),z3b hlt]
      obtain ⟨fn,tmps,assign,body,hy,hR1⟩:=hY (kd - 1) [] i _ wr hx hJ;unfold zwd at hy;rw [show qu 1=(1:Int) from rfl,show qu i=(i:Int) from rfl,show qu 0=(0:Int) from rfl] at hy
      gi_wp2
      refine ⟨fun hq=>absurd hq (by simp [mo]),hR1.mono ?_⟩;rintro e W3 (⟨rfl,hJ3⟩|⟨rfl,hJx3⟩)
      . gi_wp2
        go_roundw
        case rel=>exact ⟨i+1,by omega,by go_num,hJ3⟩
        case measure=>simp [intOf];omega
      . gi_wp2
        refine bodyPost_ret (results_none rfl _ _ _) rfl ?_;exact ⟨⟨_,rfl⟩,.inr hJx3⟩
    . obtain rfl:i=n:=by omega
      obtain ⟨p,c,hc,-⟩:=hcells [] _ wr hJ
      gi_wp2
      clear hlt hi hc
      gi_loopw [21] (fun v wr=>∃ (K:List (Nat×Obj)) (k:Nat),k<=i/\v=.int .i64 k/\J K (posF i L k 0) wr) (fun v _=>i - (intOf v).toNat)
      case atStart=>exact ⟨[],0,iy _,rfl,hJ⟩
      case round =>
        obtain ⟨K,k,hk1,rfl,hJ⟩:=hrel;by_cases hlt:k<i
        . gi_wp2
          gi_loopw [25] (fun v wr=>∃ (K:List (Nat×Obj)) (m:Nat),m<=k/\v=.int .i64 m/\J K (posF i L k m) wr) (fun v _=>k - (intOf v).toNat)
          case atStart=>exact ⟨K,0,iy _,rfl,hJ⟩
          case round =>
            obtain ⟨K,m,hm1,rfl,hJ⟩:=hrel;by_cases hmk:m<k
            . obtain ⟨p,c,hc,ht⟩:=hcells K _ wr hJ;obtain ⟨b,o,rfl,ht2⟩:=ht (by omega);obtain ⟨e1,c1⟩:=ht2 m (by omega);obtain ⟨e2,c2⟩:=ht2 k (by omega);obtain ⟨x0,x1,x2,x3,x4,x5,x6,x7,x8,x9,hx,d1⟩:=yfp (o:=o+m*23+1) e1 (fun j hj=>by rw [show o+m*23+1+j=o+23*m+1+j by omega];exact c1 j hj);obtain ⟨y0,y1,y2,y3,y4,y5,y6,y7,y8,y9,hy,d2⟩:=yfp (o:=o+k*23+1) e2 (fun j hj=>by rw [show o+k*23+1+j=o+23*k+1+j by omega];exact c2 j hj);have d3:=d1 0 (by decide);have d4:=d2 0 (by decide);simp only [j0,List.getElem_cons_zero] at d3 d4;clear c1 c2 ht2 ht;by_cases he:zey L m=zey L k
              . have q:=fun w=>yew e1 e2 (zAa he) w;rw [hx,hy] at q;simp only [nV,ja,pj] at q;clear e1 e2 hx hy
                gi_wp2
                gi_region
                gi_wp2
                have hb:Below wr.heap.size wr (wr.alloc (Obj.cells #[jn fm 2,jn fm 3] 3)).drew:=((Below.refl wr.heap.size wr).alloc (fx _) _).drew;have hJ2:=hK K _ wr _ wr.heap.size _ hJ hb (fx _) (World.alloc_heap_new wr _);have hx:∀ z,z<2->(zi6 i++zcz L i)[posF i L k m+z]?=some (zwd (2+z) m k):=fun z hz=>ymg hlt hmk he z hz;obtain ⟨K2,hK2⟩:∃ K2,K2=(wr.heap.size,Obj.cells #[jn fm 2,jn fm 3] 3) :: K:=⟨_,rfl⟩;have hin:(wr.heap.size,Obj.cells #[jn fm 2,jn fm 3] 3)∈K2:=by rw [hK2];exact .head _
                rw [<- hK2] at hJ2;obtain ⟨B,hB0⟩:∃ B,B=wr.heap.size:=⟨_,rfl⟩;rw [<- hB0] at hin ⊢;clear hK2 hJ hb d1 d2 d3 d4 q hc hcells hK hB0
                gi_loopw [43] (fun v wr=>∃ (z:Nat),z<=2/\v=.int .i64 z/\J K2 (posF i L k m+z) wr) (fun v _=>2 - (intOf v).toNat)
                case atStart=>exact ⟨0,by decide,rfl,hJ2⟩
                case round =>
                  obtain ⟨z,hz,rfl,hJ⟩:=hrel;by_cases hz2:z<2
                  . have hrow:=hk _ _ _ _ _ hJ hin
                    have hcell:wr.cell? ⟨B,z,none⟩=some (.int .i64 ((2+z:Nat))):=by
                      match z,hz2 with
                      |0,_=>simp [r9,hrow]
                      |1,_=>simp [r9,hrow]
                    obtain ⟨fn,tmps,assign,body,hy,hR1⟩:=hY (kd - 1) K2 _ _ wr (hx z hz2) hJ;unfold zwd at hy;rw [show qu (2+z)=2+(z:Int) from by simp,show qu m=(m:Int) from rfl,show qu k=(k:Int) from rfl] at hy
                    gi_wp2
                    refine ⟨fun hq=>absurd hq (by simp [mo]),hR1.mono ?_⟩;rintro e W3 (⟨rfl,hJ3⟩|⟨rfl,hJx3⟩)
                    . gi_wp2
                      go_roundw
                      case rel=>exact ⟨z+1,by omega,by go_num,hJ3⟩
                      case measure=>simp [intOf];omega
                    . gi_wp2
                      refine bodyPost_ret (results_none rfl _ _ _) rfl ?_;exact ⟨⟨_,rfl⟩,.inr hJx3⟩
                  . obtain rfl:z=2:=by omega
                    gi_wp2
                    exact ⟨⟨K2,m+1,by omega,by go_num,by rw [yg3 he];exact hJ⟩,by simp [intOf];omega⟩
              . have q:=fun w=>yew e1 e2 (zAb he) w;rw [hx,hy] at q;simp only [nV,ja,pj] at q;clear e1 e2 hx hy
                gi_wp2
                gi_region
                gi_wp2
                go_roundw
                case rel=>exact ⟨K,m+1,by omega,by go_num,by rw [yg2 he];exact hB _ _ wr wr.drew hJ ((Below.refl wr.heap.size wr).drew)⟩
                case measure=>simp [intOf];omega
            . obtain rfl:m=k:=by omega
              gi_wp2
              go_roundw
              case rel=>exact ⟨K,m+1,by omega,by go_num,by rw [yoi];exact hJ⟩
              case measure=>simp [intOf];omega
        . obtain rfl:k=i:=by omega
          gi_wp2
          go_end0
          rw [ymh] at hJ;exact ⟨⟨_,rfl⟩,.inl ⟨_,hJ⟩⟩
theorem yhi:ItOk Try.prog 66 zg9 where
  can:=fun caps s k s' h _=>ydw h
  plain:=fun k x hx σ=>by
    cases k with
    |nil=>simp [zg9] at hx
    |cons n l =>
      have h1:∀ n x,x∈zi6 n->RL (VR σ) x x:=by
        intro n
        induction n with
        |zero=>intro x hx;simp [zi6] at hx
        |succ n ih =>
          intro x hx;rw [zi6,ig] at hx;rcases hx with hx|hx
          . exact ih x hx
          . rw [ib] at hx;subst hx;exact ⟨z2f _ _ _,trivial⟩
      have h2:∀ k i x,x∈zjd l k i->RL (VR σ) x x:=by
        intro k i
        induction i with
        |zero=>intro x hx;simp [zjd] at hx
        |succ i ih =>
          intro x hx;rw [zjd,ig] at hx;rcases hx with hx|hx
          . exact ih x hx
          . rw [zcn] at hx;split at hx
            . simp only [List.mem_cons,List.not_mem_nil,or_false] at hx;rcases hx with rfl|rfl<;>exact ⟨z2f _ _ _,trivial⟩
            . simp at hx
      have h3:∀ k x,x∈zcz l k->RL (VR σ) x x:=by
        intro k
        induction k with
        |zero=>intro x hx;simp [zcz] at hx
        |succ k ih =>
          intro x hx;rw [zcz,ig] at hx;rcases hx with hx|hx
          . exact ih x hx
          . exact h2 k k x hx
      rcases ig.1 hx with hx|hx
      . exact h1 n x hx
      . exact h3 n x hx
  enter:=enters_of Try.func66 (by kernel_rfl) rfl
  runs:=fun caps' k kd l J Jx W h1 h2 _ h4 h5 h6 h7=>z98 caps' k kd l J Jx W h1 h4 h5 h6 h2 h7
end
end Go.Proofs.Ytkfnjbfnkpameaa
