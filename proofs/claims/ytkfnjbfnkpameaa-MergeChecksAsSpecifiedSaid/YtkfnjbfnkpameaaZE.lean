/- Part 5 of the proof of MergeChecksAsSpecified (several texts in one; no further condition). -/
import Derived.Test.YtkfnjbfnkpameaaZD
import Derived.Test.YtkfnjbfnkpameaaProg
import Derived.KernelRfl
import GoSem.Claim
import Derived.ProofKit
import Derived.OpenShut
import Derived.ShutString
import Derived.ChangeOld
import Derived.Below
import Derived.Carry
import Derived.Deep.Slices
import Derived.SizedLaws
import Derived.JoinedCond
import Derived.WalkKit
import Derived.LoopNIn
import Derived.LoopIn
import Derived.Test.YtkfnjbfnkpameaaZC
import Derived.Laws.BitsAllLaws
import Derived.RangeFuncBox
import Derived.RangeFuncLeaves
import Derived.Shelf.Abstract
import Derived.OwnWalkIn
import Derived.TacticsInMore
import Derived.BigRegionIn
import Derived.Deep.MidRow
set_option linter.unusedSimpArgs false
set_option linter.unusedVariables false
set_option linter.unusedSectionVars false
namespace Go.Proofs.Ytkfnjbfnkpameaa
open Go.Addr renaming add_lit->nq
open _root_.And renaming intro->fc
open _root_.Array renaming getElem?_eq_getElem->kv
open _root_.BitVec renaming ofInt->i6,toNat_and->oe,toNat_ofInt->lm,toNat_ofNat->pl
open _root_.Bool renaming and_eq_true->fi,and_self->gb,eq_iff_iff->ks,true_and->jx
open _root_.Eq renaming trans->f5
open Go.Fence renaming wide->md
open _root_.Go.RowKit renaming wrap64->p9
open _root_.Int renaming ofNat->qn
open Go renaming IntKind->ir,Operand->f6,Program->gn,TypeId->gm
open Go.IntKind renaming i64->fh
open _root_.List renaming all_cons->jm,append_assoc->gi,append_nil->gr,cons_append->gp,drop_append->mg,drop_append_of_le_length->qh,drop_drop->ln,drop_eq_getElem_cons->j0,drop_of_length_le->iv,drop_succ_cons->ku,drop_zero->gl,flatMap_cons->i9,flatten_cons->ig,getElem?_append_left->gh,getElem?_append_right->il,getElem?_cons_zero->gw,getElem?_drop->k9,getElem?_eq_getElem->fj,getElem?_eq_some_iff->gd,getElem?_map->li,getElem_of_mem->mo,length_append->fw,length_cons->gg,length_drop->je,length_map->fq,length_nil->jd,length_replicate->ld,length_set->qk,length_take->ij,map_cons->iz,map_nil->pc,mem_append->im,mem_map->jn,mem_singleton->gt,nil_append->ge,range'->qs,range'_succ->p8,replicate->f7,replicate_succ->jb,take_append->pa,take_append_drop->i7,take_append_of_le_length->jw,take_of_length_le->ii,take_zero->m6
open _root_.List.cons renaming injEq->ow
open _root_.Nat renaming add_mul->jl,add_zero->jq,beq->fx,eq_of_beq_eq_true->fk,le_refl->fm,log2->ke,log2_self_le->qa,mod_eq_of_lt->nh,mul_one->qg,not_lt_zero->nj,one_mul->m7,pow_le_pow_right->lw,reduceAdd->ft,reduceSub->iy,zero_add->i4,zero_le->io
open Go.Op renaming equal->qx,equalIn->kw
open _root_.Option renaming bind_some->fe
open _root_.Option.some renaming injEq->fd
open _root_.Prod.mk renaming injEq->fl
open Go.Proofs.Ytkfnjbfnkpameaa.T renaming cells->jc,flatL->ra,ids->qp,idsL->kb,int->fg,one->m9
open Go.Proofs.Ytkfnjbfnkpameaa.TS renaming set_ne->na,set_same->m5
open Go.Proofs.Ytkfnjbfnkpameaa.VR renaming ofInt->pq
open Go.Value renaming bool->r9,int->jg,okWide->rc
open Go.World renaming cell?->rp
set_option maxRecDepth 100000
open Go Go.RowKit
structure Ar (n:Nat) where
  l:List Int
  h:l.length=n
deriving DecidableEq
instance {n:Nat}:Inhabited (Ar n):=⟨⟨f7 n 0,ld⟩⟩
theorem Ar.ext' {n:Nat} {a b:Ar n} (h:a.l=b.l):a=b:=by cases a;cases b;cases h;rfl
theorem Ar.eq_iff {n:Nat} {a b:Ar n}:a=b↔a.l=b.l:=⟨fun h=>by rw [h],Ar.ext'⟩
def mkAr (n:Nat) (l:List Int):Ar n:=⟨(l++f7 n 0).take n,by rw [ij,fw,ld];omega⟩
def zA (n:Nat):Ar n:=⟨f7 n 0,ld⟩
def zVs (n:Nat) (k:ir):List Value:=f7 n (.int k 0)
theorem ym6 {n:Nat} {k:ir}:zgj (zVs n k)=some ((zA n).l.map (fg k)):=by
  show zgj (f7 n (.int k 0))=some ((f7 n 0).map (fg k))
  induction n with
  |zero=>rfl
  |succ n ih=>rw [jb,jb,iz];unfold zgj;rw [ih];rfl
def eAr (k:ir) {n:Nat} (a:Ar n):T:=.agg (a.l.map (fg k))
theorem yem {k:ir} {n:Nat} (a:Ar n):(eAr k a).cells=a.l.map (fg k):=f5 rfl rfl
theorem zga {k:ir} {n:Nat} (a:Ar n):(eAr k a).cells.length=n:=by rw [yem,fq,a.h]
theorem zq9 {k:ir}:∀ (l:List Int),(l.map (fg k)).all m9=true
  |[]=>rfl
  |x :: l=>by rw [iz,jm,zq9 l];rfl
theorem zgm {k:ir} {m:Nat}:∀ (l:List Int),kb m (l.map (fg k))=true
  |[]=>rfl
  |x :: l=>by simp only [iz,kb,qp,zgm l,gb]
theorem yja {k:ir} {m n:Nat} (a:Ar n):(eAr k a).ids m=true:=zgm a.l
theorem zuy {k:ir}:∀ (l:List Int),ra (l.map (fg k))=true
  |[]=>rfl
  |x :: l=>by simp only [iz,ra,T.flat,zuy l,gb]
section
variable {P:gn}
theorem z2p (len:Nat) (β:Type) (b:β) (f:Nat->β->Sem (ForInStep β)):(forIn [0:len] b f:Sem β)=forIn (qs 0 len) b f:=by
  rw [Std.Legacy.Range.forIn_eq_forIn_range'];simp [Std.Legacy.Range.size]
theorem zjb {k:ir}:∀ (l:List Int),zgl (l.map (fg k))=some (l.map (jg k))
  |[]=>rfl
  |x :: l=>by rw [iz];unfold zgl;rw [zjb l];rfl
theorem yma {σ:Type} (s0 s1:σ) (x y:List Int) (len:Nat) (hx:x.length=len) (hy:y.length=len) (f:Nat->σ->Sem (ForInStep σ))
    (hf:∀ i (hi:i<len),za8 P (f i s0)=some (if x[i]=y[i] then .yield s0 else .done s1)) :
    ∀ (m k:Nat),k+m=len->za8 P (forIn (qs k m) s0 f:Sem σ)=some (if x.drop k=y.drop k then s0 else s1):=by
  intro m
  induction m with
  |zero=>intro k hk;simp [iv (show x.length<=k by omega),iv (show y.length<=k by omega)];rfl
  |succ m ih =>
    intro k hk;have hdx:=j0 (show k<x.length by omega);have hdy:=j0 (show k<y.length by omega);rw [p8,List.forIn_cons,zak,hf k (by omega)];by_cases hxy:x[k]'(by omega)=y[k]'(by omega)
    . rw [zAc hxy];show za8 P (forIn (qs (k+1) m) s0 f)=_;rw [ih (k+1) (by omega),hdx,hdy];simp only [hxy,ow,true_and]
    . rw [zAd hxy,hdx,hdy];simp only [hxy,ow,false_and,if_false];rfl
theorem yoh (d:Nat) {e:gm} (k k':ir) (a b:Int) (he:P.underlying e=some (.int k)):za8 P (kw (d+1) e (.int k' a) (.int k' b))=some (a == b):=by
  unfold kw;rw [zak,zcg he];cases k'<;>rfl
theorem yoi (d:Nat) {t e len:Nat} {k:ir} {i:TypeInfo} (ht:P.underlying t=some (.array len e)) (he:P.underlying e=some (.int k)) (hi:P.info? e=some i) (hsz:i.size=1) (x y:List Int) (hx:x.length=len) (hy:y.length=len) :
    za8 P (kw (d+2) t (.agg (x.map (jg k)).toArray) (.agg (y.map (jg k)).toArray))=some (x == y):=by
  have hpart:∀ (l:List Int) (j:Nat) (hk:j<l.length),za8 P (part e (l.map (jg k)).toArray j)=some (.int k l[j]):=by
    intro l j hk
    have hagg:za8 P (isAgg e)=some false:=by
      unfold isAgg;rw [zak,zcg he];rfl
    have hp:∀ v:Value,za8 P (pure v:Sem Value)=some v:=fun v=>rfl;simp [part,zak,hagg,hk,hp]
  have hq:∀ a b:Int,za8 P (kw (d+1) e (.int k a) (.int k b))=some (a == b):=fun a b=>yoh d k k a b he;show za8 P (kw ((d+1)+1) _ _ _)=_;generalize d+1=d' at *
  have hsize:za8 P (sizeOf e)=some 1:=by
    unfold sizeOf typeInfo;rw [zak,zak];show ((za8 P (match P.info? e with|some i=>pure i|none=>_)).bind _)=_;rw [hi];show za8 P (pure i.size)=_;rw [hsz];rfl
  have hpu:∀ {α:Type} (v:α),za8 P (pure v:Sem α)=some v:=fun v=>rfl;simp only [kw,zak,zcg ht,fe,hsize,z2p,qg];rw [yma (P:=P) (none,()) (some false,()) x y len hx hy _ ?_ len 0 (by omega)]
  . by_cases hxy:x=y
    . subst hxy;simp [hpu]
    . simp [hxy,hpu]
  . intro j hk;simp only [zak,hpart x j (by omega),hpart y j (by omega),fe,hq];by_cases hxy:x[j]'(by omega)=y[j]'(by omega)
    . have e1:((x[j]'(by omega)) == (y[j]'(by omega)))=true:=by rw [hxy];simp
      rw [e1,zAc hxy];simp [hpu]
    . have e1:((x[j]'(by omega)) == (y[j]'(by omega)))=false:=by
        simp only [beq_eq_false_iff_ne,ne_eq];exact hxy
      rw [e1,zAd hxy];simp [hpu]
variable {Γ:Env} {S:TS} {t:gm} {x y:f6}
theorem ya5 {n e:Nat} {k:ir} (ht:P.underlying t=some (.array n e)) (he:P.underlying e=some (.int k)) (hi:(P.info? e).map (·.size)=some 1) (hq:P.eqGuardType P.depth t=false) (a b:Ar n) :
    tBin P Γ S t .eql x y (eAr k a) (eAr k b)=some (.bool (decide (a=b)))/\tBin P Γ S t .neq x y (eAr k a) (eAr k b)=some (.bool (!(decide (a=b)))):=by
  obtain ⟨i,hi1,hi2⟩:∃ i,P.info? e=some i/\i.size=1:=by
    cases h:P.info? e with
    |none=>rw [h] at hi;simp at hi
    |some i=>rw [h] at hi;exact ⟨i,rfl,by simpa using hi⟩
  have h:=yoi (P:=P) 9998 ht he hi1 hi2 a.l b.l a.h b.h
  have hg:∀ op,op=.eql\/op=.neq->za8 P (eqGuard op t x y (.agg (a.l.map (jg k)).toArray) (.agg (b.l.map (jg k)).toArray))=some ():=by
    intro op hop;rcases hop with rfl|rfl
    . show za8 P (if !(P.eqGuardType P.depth t) then pure () else _)=some ();rw [hq];rfl
    . show za8 P (if !(P.eqGuardType P.depth t) then pure () else _)=some ();rw [hq];rfl
  have hd:(a.l == b.l)=decide (a=b):=by
    by_cases hab:a=b
    . rw [hab];simp
    . rw [zAb hab];have:a.l≠b.l:=fun hh=>hab (Ar.ext' hh);simp [this]
  have he:za8 P (binOp .eql t (.agg (a.l.map (jg k)).toArray) (.agg (b.l.map (jg k)).toArray))=some (.bool (decide (a=b))):=by
    show za8 P (do pure (r9 (<- qx t (.agg (a.l.map (jg k)).toArray) (.agg (b.l.map (jg k)).toArray))):Sem Value)=_;have h2:za8 P (qx t (.agg (a.l.map (jg k)).toArray) (.agg (b.l.map (jg k)).toArray))=some (a.l == b.l):=h;rw [zak,h2,hd];rfl
  have hn:za8 P (binOp .neq t (.agg (a.l.map (jg k)).toArray) (.agg (b.l.map (jg k)).toArray))=some (.bool (!(decide (a=b)))):=by
    show za8 P (do pure (r9 (!(<- qx t (.agg (a.l.map (jg k)).toArray) (.agg (b.l.map (jg k)).toArray)))):Sem Value)=_;have h2:za8 P (qx t (.agg (a.l.map (jg k)).toArray) (.agg (b.l.map (jg k)).toArray))=some (a.l == b.l):=h;rw [zak,h2,hd];rfl
  constructor
  . show zon P t .eql x y _ _=_;unfold zon;rw [zjb,zjb];simp only;rw [zak,hg _ (.inl rfl)];show (match za8 P (binOp .eql t (.agg (a.l.map (jg k)).toArray) (.agg (b.l.map (jg k)).toArray)) with|some (.bool r)=>some (T.bool r)|_=>none)=_;rw [he]
  . show zon P t .neq x y _ _=_;unfold zon;rw [zjb,zjb];simp only;rw [zak,hg _ (.inr rfl)];show (match za8 P (binOp .neq t (.agg (a.l.map (jg k)).toArray) (.agg (b.l.map (jg k)).toArray)) with|some (.bool r)=>some (T.bool r)|_=>none)=_;rw [hn]
end
section
variable {GL:List (Nat×List Value)} {A A' A2:Nat->Prop} {β β' β2:Bx} {S S' S2:TS} {s s' s2:CS} {P:gn} {Γ:Env} {N:Nat} {h h' h2:Nat->T} {Q R:Exit->(Nat->T)->TS->Prop}
theorem VL.setAt {g:Nat->Fam} {t:T} {v:Value}:∀ {l:List T} {vs:List Value} {i:Nat},VL A β g l vs->vs[i]?=some v->VT A β g t v->VL A β g (l.set i t) vs
  |[],_,_,.nil,_,_=>.nil
  |x :: l,y :: vs,0,.cons k1 k2,hv,ht=>by
    simp only [gw,fd] at hv;subst hv;exact .cons ht k2
  |x :: l,y :: vs,i+1,.cons k1 k2,hv,ht=>.cons k1 (VL.setAt k2 (by simpa using hv) ht)
theorem TW.freezeC {c:Code} (c0 i:Nat) {b e len M N0:Nat} {z z0:Bool} {l l0:List T} (L:List T) (hS0:S.box c0=.cells z0 N0 l0) (hi:l0[i]?=some (.arr b e 0 len len M)) (hne:c0≠b) (hS:S.box b=.cells z M l) (he:0<e) (hoff:0+len*e<=M) (hL:(l.drop 0).take (len*e)=L.flatMap jc) (hs:∀ t,t∈L->t.cells.length=e) (hlen:L.length=len)
    (k:TW P Γ GL N c h ((S.set c0 (.cells z0 N0 (l0.set i (.lst e L)))).set b .gone) Q):TW P Γ GL N c h S Q:=by
  intro A β fr s hF hT;obtain ⟨A',β',k1,k2,k3⟩:=hT.freeze hS;obtain ⟨n0,hc⟩:=hT.cells c0 z0 N0 l0 hS0;have hS0':(S.set b .gone).box c0=.cells z0 N0 l0:=by rw [na _ _ hne];exact hS0
  obtain ⟨n1,hc'⟩:=k1.cells c0 z0 N0 l0 hS0';have hi0:i<l0.length:=(gd.1 hi).1
  have hnew:zo8 A' β' (zaa s.obj) c0 z0 N0 (l0.set i (.lst e L)):=by
    rcases hc with ⟨_,q,_⟩|⟨f,u,cs,rest,a1,a2,a3,a4,a5⟩
    . omega
    . rcases hc' with ⟨_,q,_⟩|⟨f',u',cs',rest',b1,b2,b3,b4,b5⟩
      . omega
      . obtain ⟨l',c1,c2⟩:=k2.bx c0 _ a1;rw [b1] at c1;cases c1;simp only [Loc.le] at c2;rcases c2 with ⟨rfl,rfl,_⟩|c2
        . rw [a3] at b3;simp only [Fam.mk.injEq,ow,fl] at b3;obtain ⟨_,⟨⟨_,rfl⟩,rfl⟩,_⟩:=b3;obtain ⟨v,v1,v2⟩:=a4.get hi;refine ⟨by rw [qk];exact n0,.inr ⟨f,u,cs,rest,b1,a2,a3,b4.setAt v1 (k3 v2 he hoff hL hs hlen (fm _)),a5⟩⟩
        . omega
  have hT':TRel GL A' β' ((S.set c0 (.cells z0 N0 (l0.set i (.lst e L)))).set b .gone) s:=by
    refine ⟨k1.inr,k1.inv,k1.alt,k1.dis,k1.inj,k1.next,fun b' z N' l' hb'=>?_,fun b' l' hb'=>?_,k1.glob⟩
    . by_cases e1:b'=b
      . subst e1;rw [m5] at hb';cases hb'
      . rw [na _ _ e1] at hb';by_cases e2:b'=c0
        . subst e2;rw [m5] at hb';cases hb';exact hnew
        . rw [na _ _ e2] at hb';exact k1.cells b' z N' l' (by rw [na _ _ e1];exact hb')
    . by_cases e1:b'=b
      . subst e1;rw [m5] at hb';cases hb'
      . rw [na _ _ e1] at hb';by_cases e2:b'=c0
        . subst e2;rw [m5] at hb';cases hb'
        . rw [na _ _ e2] at hb';exact k1.maps b' l' (by rw [na _ _ e1];exact hb')
  have hF':FrOk A' β' (zaa s.obj) N h fr:=⟨hF.nt,hF.le,fun u=>k2.vt hT (hF.slot u)⟩;refine (k A' β' fr s hF' hT').mono ?_;rintro e2 fr2 s2 ⟨h2,S2,l2,q2⟩;exact ⟨h2,S2,Left.trans (h':=h) (fr':=fr) hT.le k2 l2,q2⟩
theorem TW.nilC {c:Code} (c0 i e:Nat) {N0:Nat} {z0:Bool} {l0:List T} (hS0:S.box c0=.cells z0 N0 l0) (hi:l0[i]?=some .nils) (k:TW P Γ GL N c h (S.set c0 (.cells z0 N0 (l0.set i (.lst e [])))) Q):TW P Γ GL N c h S Q:=by
  intro A β fr s hF hT;obtain ⟨n0,hc⟩:=hT.cells c0 z0 N0 l0 hS0;have hi0:i<l0.length:=(gd.1 hi).1
  have hnew:zo8 A β (zaa s.obj) c0 z0 N0 (l0.set i (.lst e [])):=by
    rcases hc with ⟨_,q,_⟩|⟨f,u,cs,rest,a1,a2,a3,a4,a5⟩
    . omega
    . obtain ⟨v,v1,v2⟩:=a4.get hi;refine ⟨by rw [qk];exact n0,.inr ⟨f,u,cs,rest,a1,a2,a3,a4.setAt v1 ?_,a5⟩⟩;cases v2;exact .lnil
  have hT':TRel GL A β (S.set c0 (.cells z0 N0 (l0.set i (.lst e [])))) s:=by
    refine ⟨hT.inr,hT.inv,hT.alt,hT.dis,hT.inj,hT.next,fun b' z N' l' hb'=>?_,fun b' l' hb'=>?_,hT.glob⟩
    . by_cases e2:b'=c0
      . subst e2;rw [m5] at hb';cases hb';exact hnew
      . rw [na _ _ e2] at hb';exact hT.cells b' z N' l' hb'
    . by_cases e2:b'=c0
      . subst e2;rw [m5] at hb';cases hb'
      . rw [na _ _ e2] at hb';exact hT.maps b' l' hb'
  exact k A β fr s hF hT'
theorem TW.vecC {c:Code} (c0 i e:Nat) {N0:Nat} {z0:Bool} {l0:List T} (hS0:S.box c0=.cells z0 N0 l0) (hi:l0[i]?=some .nils) (h0:c0<S.n) (k:TW P Γ GL N c h ((S.set c0 (.cells z0 N0 (l0.set i (.arr S.n e 0 0 0 0)))).add (.cells false 0 [])) Q):TW P Γ GL N c h S Q:=by
  intro A β fr s hF hT;have hb0:β S.n=none:=hT.next _ (fm _)
  have hle:Bx.le β (bnew β S.n .nil):=z0f hb0;have hse:bnew β S.n .nil S.n=some .nil:=zAc rfl;have hne:∀ b',b'≠S.n->bnew β S.n .nil b'=β b':=fun b' hb'=>zAd hb'
  have hown:∀ f,Own (bnew β S.n .nil) f->Own β f:=fun f ⟨b',hb'⟩=>by
    by_cases hi:b'=S.n
    . subst hi;rw [hse] at hb';rcases hb' with ⟨u,N,hb'⟩|hb'<;>simp at hb'
    . rw [hne b' hi] at hb';exact ⟨b',hb'⟩
  have hst:Stp A β s A (bnew β S.n .nil) s:=⟨Can.refl _,fun _ h=>h,fun _ h=>.inl h,fun f hf=>.inl (hown f hf),fun _ _ _=>rfl,hle,fun _ h=>.inl h,fun _ h=>.inl h⟩;obtain ⟨n0,hc⟩:=hT.cells c0 z0 N0 l0 hS0;have hi0:i<l0.length:=(gd.1 hi).1
  have hnew:zo8 A (bnew β S.n .nil) (zaa s.obj) c0 z0 N0 (l0.set i (.arr S.n e 0 0 0 0)):=by
    rcases hc with ⟨_,q,_⟩|⟨f,u,cs,rest,a1,a2,a3,a4,a5⟩
    . omega
    . obtain ⟨v,v1,v2⟩:=a4.get hi;have a4':=a4.mono (A':=A) (β':=bnew β S.n .nil) (g':=zaa s.obj) (fun _ h=>h) (fun _ _=>rfl) hle;refine ⟨by rw [qk];exact n0,.inr ⟨f,u,cs,rest,by rw [hne c0 (by omega)];exact a1,a2,a3,a4'.setAt v1 ?_,a5⟩⟩;cases v2;exact .arrNil hse
  have hT':TRel GL A (bnew β S.n .nil) ((S.set c0 (.cells z0 N0 (l0.set i (.arr S.n e 0 0 0 0)))).add (.cells false 0 [])) s:=by
    refine ⟨hT.inr,hT.inv,hT.alt,fun f hf=>hT.dis f (hown f hf),fun b1 b2 l1 l2 f h1 h2 h3 h4=>?_,fun b' hb'=>?_,fun b' z N l hb'=>?_,fun b' l hb'=>?_,hT.glob⟩
    . by_cases e1:b1=S.n
      . subst e1;rw [hse] at h1;cases h1;simp [Loc.fam] at h3
      . by_cases e2:b2=S.n
        . subst e2;rw [hse] at h2;cases h2;simp [Loc.fam] at h4
        . rw [hne b1 e1] at h1;rw [hne b2 e2] at h2;exact hT.inj b1 b2 l1 l2 f h1 h2 h3 h4
    . have:S.n+1<=b':=hb';rw [hne b' (by omega)];exact hT.next b' (by omega)
    . by_cases hi:b'=S.n
      . subst hi;have hq:=(TS.add_same (S.set c0 (.cells z0 N0 (l0.set i (.arr S.n e 0 0 0 0)))) (.cells false 0 [])).symm.trans hb';cases hq;exact ⟨rfl,.inl ⟨hse,rfl,rfl⟩⟩
      . rw [TS.add_ne _ _ (show b'≠(S.set c0 (.cells z0 N0 (l0.set i (.arr S.n e 0 0 0 0)))).n from hi)] at hb';by_cases e2:b'=c0
        . subst e2;rw [m5] at hb';cases hb';exact hnew
        . rw [na _ _ e2] at hb';exact (hT.cells b' z N l hb').mono (fun _ h=>h) (fun _ _=>rfl) hle (hne b' hi) fun _ _ _ _=>rfl
    . by_cases hi:b'=S.n
      . subst hi;have hq:=(TS.add_same (S.set c0 (.cells z0 N0 (l0.set i (.arr S.n e 0 0 0 0)))) (.cells false 0 [])).symm.trans hb';cases hq
      . rw [TS.add_ne _ _ (show b'≠(S.set c0 (.cells z0 N0 (l0.set i (.arr S.n e 0 0 0 0)))).n from hi)] at hb';by_cases e2:b'=c0
        . subst e2;rw [m5] at hb';cases hb'
        . rw [na _ _ e2] at hb';exact (hT.maps b' l hb').mono (fun _ h=>h) (fun _ _=>rfl) hle (hne b' hi) fun _ _=>rfl
  have hF':FrOk A (bnew β S.n .nil) (zaa s.obj) N h fr:=⟨hF.nt,hF.le,fun u=>hst.vt hT (hF.slot u)⟩;refine (k A _ fr s hF' hT').mono ?_;rintro e2 fr2 s2 ⟨h2,S2,l2,q2⟩;exact ⟨h2,S2,Left.trans (h':=h) (fr':=fr) hT.le hst l2,q2⟩
end
theorem zgh {α:Type} (f:α->T) (l:List α):(l.map f).flatMap jc=vecC f l:=rfl
theorem zew {α:Type} {f:α->T} (h:∀ x,(f x).cells.all m9=true):∀ (l:List α),(vecC f l).all m9=true
  |[]=>rfl
  |x :: l=>by
    have ih:=zew h l;unfold vecC at ih ⊢;rw [iz,i9,List.all_append,h,ih];rfl
def Le1:List T->List T->Prop
  |[],[]=>True
  |t :: l,t' :: l'=>(t=t'\/(t=.nils/\∃ e,t'=.lst e []))/\Le1 l l'
  |_,_=>False
def Le2:List T->List T->Prop
  |[],[]=>True
  |t :: l,t' :: l'=>(t=t'\/(t=.nils/\∃ e,t'=.lst e [])\/∃ m m',t=.agg m/\t'=.agg m'/\Le1 m m')/\Le2 l l'
  |_,_=>False
theorem Le1.vl {A:Nat->Prop} {β:Bx} {g:Nat->Fam}:∀ {l l':List T} {vs:List Value},Le1 l l'->VL A β g l vs->VL A β g l' vs
  |[],[],_,_,.nil=>.nil
  |t :: l,t' :: l',_,h,.cons k1 k2=>by
    obtain ⟨h1,h2⟩:=h;rcases h1 with rfl|⟨rfl,e,rfl⟩
    . exact .cons k1 (Le1.vl h2 k2)
    . cases k1;exact .cons .lnil (Le1.vl h2 k2)
theorem Le2.vl {A:Nat->Prop} {β:Bx} {g:Nat->Fam}:∀ {l l':List T} {vs:List Value},Le2 l l'->VL A β g l vs->VL A β g l' vs
  |[],[],_,_,.nil=>.nil
  |t :: l,t' :: l',_,h,.cons k1 k2=>by
    obtain ⟨h1,h2⟩:=h;rcases h1 with rfl|⟨rfl,e,rfl⟩|⟨m,m',rfl,rfl,h3⟩
    . exact .cons k1 (Le2.vl h2 k2)
    . cases k1;exact .cons .lnil (Le2.vl h2 k2)
    . cases k1 with|agg k=>exact .cons (.agg (h3.vl k)) (Le2.vl h2 k2)
theorem yop {n:Nat} {i:Int} (h:0<=i/\i<=(n:Int)):zb2 n n (some (.int .i64 i)) none none=some (i.toNat,n,n):=by
  obtain ⟨k,rfl⟩:∃ k:Nat,i=(k:Int):=⟨i.toNat,by omega⟩;exact yhp rfl (by omega) (fm _)
theorem Ar.len {n:Nat} (a:Ar n):a.l.length=n:=a.h
def Ar.set {n:Nat} (a:Ar n) (i v:Int):Ar n:=⟨a.l.set i.toNat v,by rw [qk,a.h]⟩
theorem yel {k:ir} {n:Nat} (a:Ar n):eAr k a=.agg (a.l.map (fg k)):=f5 rfl rfl
theorem arIx {n:Nat} (a:Ar n) {i:Int} (h:0<=i/\i<(n:Int)):a.l[i.toNat]?=some (gx a.l i):=zag (by rw [a.h];exact h)
theorem arSpl {k:ir} {n:Nat} (a b:Ar n):spl (a.l.map (fg k)) 0 (b.l.map (fg k))=b.l.map (fg k):=by
  unfold spl;rw [m6,ge,iv (by rw [fq,fq,a.h,b.h];omega),gr]
theorem you {k:ir} {n:Nat} (a:Ar n) {i:Int} (v:Int) (h:0<=i/\i<(n:Int)):spl (a.l.map (fg k)) i.toNat [fg k v]=(a.set i v).l.map (fg k):=by
  exact ylj (f:=fg k) (v:=v) (L:=a.l) (i:=i.toNat) (by rw [a.h];omega)
def u8o (z:Int):UInt8:=UInt8.ofNat z.toNat
def strL (l:List Int):ByteArray:=⟨(l.map u8o).toArray⟩
def bytL (s:ByteArray):List Int:=s.data.toList.map fun c=>(c.toNat:Int)
theorem z8t (s:ByteArray):(bytL s).length=s.size:=by unfold bytL;rw [fq];exact Array.length_toList
theorem z3j (s:ByteArray):zhw s=(bytL s).map (fg .u8):=by
  unfold zhw bytL;rw [List.map_map];rfl
theorem z0h:∀ (l:List Int),zvh (l.map (fg .u8))=some (l.map u8o)
  |[]=>rfl
  |x :: l=>by rw [iz];unfold zvh;rw [z0h l];rfl
theorem z5x (l:List Int):(⟨(l.map u8o).toArray⟩:ByteArray)=strL l:=f5 rfl rfl
theorem z0b {k:ir}:∀ (l:List Int),(l.map (fg k)).flatMap jc=l.map (fg k)
  |[]=>rfl
  |x :: l=>by rw [iz,i9,z0b l];rfl
theorem yld {k:ir} {l:List Int} {n:Nat} (h:l.length=n):(l.map (fg k)).take n=l.map (fg k):=ii (by rw [fq,h];omega)
theorem yax {k:ir} {l:List Int}:(l.map (fg k)).take l.length=l.map (fg k):=yld rfl
def cpA {n:Nat} (a:Ar n) (s:ByteArray):Ar n:=⟨(bytL s).take (min s.size n)++a.l.drop (min s.size n),by rw [fw,ij,je,z8t,a.h];omega⟩
theorem yky {n:Nat} (a:Ar n) (s:ByteArray):spl (a.l.map (fg .u8)) 0 (((bytL s).map (fg .u8)).take (min s.size n))=(cpA a s).l.map (fg .u8):=by
  unfold spl cpA;rw [m6,ge,ij,fq,z8t,List.map_append,List.map_take,List.map_drop,i4];congr 2;omega
theorem yfh {k:ir} {l:List Int} {n:Nat}:((l.map (fg k)).take n).all m9=true:=by rw [<- List.map_take];exact zq9 _
theorem ykx {n:Nat}:zb2 n n none none none=some (0,n,n):=z99 (fm _)
theorem ygo {d k:Nat}:natO d (some (.int .i64 (k:Int)))=some k:=by
  rfl
theorem yoq {n:Nat} {j:Int} (h:0<=j/\j<=(n:Int)):zb2 n n none (some (.int .i64 j)) none=some (0,j.toNat,n):=by
  obtain ⟨b,rfl⟩:∃ k:Nat,j=(k:Int):=⟨j.toNat,by omega⟩;rw [zod,ygo];show (bif Nat.ble 0 b && Nat.ble b n && Nat.ble n n && _ then some (0,b,n) else none)=_;rw [zhe (by omega),zhe (by omega),zhe (fm _)];rfl
theorem sub0 {n:Nat}:n - 0=n:=Nat.sub_zero n
inductive CK where
  |int (k:ir)
  |bool
  |str
def ckV:CK->Value->Bool
  |.int k,.int k' _=>decide (k=k')
  |.bool,.bool _=>true
  |.str,.string _=>true
  |_,_=>false
def zem:List CK->List Value->Bool
  |[],[]=>true
  |c :: l,v :: m=>ckV c v && zem l m
  |_,_=>false
def znk:Value->Value->Bool
  |.int _ a,.int _ b=>a == b
  |.bool a,.bool b=>a == b
  |.string a,.string b=>a == b
  |_,_=>false
def eqVs:List Value->List Value->Bool
  |v :: l,w :: m=>znk v w && eqVs l m
  |_,_=>true
theorem zp9:∀ {sh:List CK} {xs:List Value},zem sh xs=true->xs.length=sh.length
  |[],[],_=>rfl
  |_ :: _,_ :: _,h=>by
    simp only [zem,fi] at h;rw [gg,gg,zp9 h.2]
  |[],_ :: _,h=>by simp [zem] at h
  |_ :: _,[],h=>by simp [zem] at h
theorem zn9 {c:CK}:∀ {xs:List Value},zem [c] xs=true->∃ v,xs=[v]/\ckV c v=true
  |[],h=>by simp [zem] at h
  |[v],h=>⟨v,rfl,by simpa [zem] using h⟩
  |_ :: _ :: _,h=>by simp [zem] at h
theorem zq6:∀ {a b:List CK} {xs:List Value},zem (a++b) xs=true->zem a (xs.take a.length)=true/\zem b (xs.drop a.length)=true
  |[],b,xs,h=>⟨by simp [zem],by simpa using h⟩
  |c :: a,b,[],h=>by simp [zem] at h
  |c :: a,b,v :: xs,h=>by
    simp only [gp,zem,fi] at h;obtain ⟨h1,h2⟩:=zq6 h.2;exact ⟨by simp only [gg,List.take_succ_cons,zem,h.1,h1,gb],by simpa using h2⟩
theorem zl3:∀ {a b c d:List Value},a.length=c.length->eqVs (a++b) (c++d)=(eqVs a c && eqVs b d)
  |[],b,[],d,_=>rfl
  |x :: a,b,y :: c,d,h=>by
    simp only [gp,eqVs,zl3 (Nat.succ.inj h),Bool.and_assoc]
  |[],_,_ :: _,_,h=>by simp at h
  |_ :: _,_,[],_,h=>by simp at h
def valA (a:Bool) (xs:List Value):Value:=if a then .agg xs.toArray else xs.headD undef
noncomputable def zor (P:gn) (g:gm->Option (Bool×List CK)):List Field->Nat->Option (List CK)
  |[],_=>some []
  |f :: l,off=>match g f.type,(P.info? f.type).map (fun i=>i.size) with
    | some (_, sh), some sz => if f.name ≠ "_" /\ f.offset = off /\ sz = sh.length then
        (match zor P g l (off+sh.length) with|some r=>some (sh++r)|none=>none) else none
    |_,_=>none
noncomputable def zg2 (P:gn):Nat->gm->Option (Bool×List CK)
  |0,_=>none
  |d+1,t=>match P.underlying t with
    |some (.int k)=>some (false,[.int k])
    |some .bool=>some (false,[.bool])
    |some .string=>some (false,[.str])
    |some (.struct fs)=>if P.stoodInHeld t=true then none else (match zor P (zg2 P d) fs.toList 0 with|some l=>some (true,l)|none=>none)
    |some (.array n e)=>(match zg2 P d e,(P.info? e).map (fun i=>i.size) with
      |some (_,sh),some sz=>if sz=sh.length then some (true,(f7 n sh).flatten) else none
      |_,_=>none)
    |_=>none
section
variable {P:gn}
theorem zz4 {α σ:Type} (s0 s1:σ) (f:α->σ->Sem (ForInStep σ)) (b:α->Bool):∀ (l:List α),(∀ x,x∈l->za8 P (f x s0)=some (if b x then .yield s0 else .done s1))->za8 P (forIn l s0 f:Sem σ)=some (if l.all b then s0 else s1)
  |[],_=>by simp;rfl
  |x :: l,h=>by
    rw [List.forIn_cons,zak,h x (.head _)]
    cases hb:b x with
    |true =>
      show za8 P (forIn l s0 f)=_;rw [zz4 s0 s1 f b l fun y hy=>h y (.tail _ hy),jm,hb,jx]
    |false =>
      rw [jm,hb,Bool.false_and];rfl
theorem yhe {d:Nat} {t:gm} {a:Bool} {sh:List CK} (h:zg2 P d t=some (a,sh)):za8 P (isAgg t)=some a:=by
  cases d with
  |zero=>simp [zg2] at h
  |succ d =>
    unfold zg2 at h;unfold isAgg;rw [zak]
    cases hu:P.underlying t with
    |none=>rw [hu] at h;simp at h
    |some u =>
      rw [hu] at h;rw [zcg hu]
      cases u with
      |int k=>simp at h;rw [<- h.1];rfl
      |bool=>simp at h;rw [<- h.1];rfl
      |string=>simp at h;rw [<- h.1];rfl
      |struct fs =>
        simp only at h;split at h
        . simp at h
        . split at h
          . simp at h;rw [<- h.1];rfl
          . simp at h
      |array n e =>
        simp only at h;split at h
        . split at h
          . simp at h;rw [<- h.1];rfl
          . simp at h
        . simp at h
      |_=>simp at h
theorem ybm {d:Nat} {t:gm} {sh:List CK} (h:zg2 P d t=some (false,sh)):∃ c,sh=[c]:=by
  cases d with
  |zero=>simp [zg2] at h
  |succ d =>
    unfold zg2 at h;split at h
    . simp at h;exact ⟨_,h.symm⟩
    . simp at h;exact ⟨_,h.symm⟩
    . simp at h;exact ⟨_,h.symm⟩
    . split at h
      . simp at h
      . split at h<;>simp at h
    . split at h
      . split at h<;>simp at h
      . simp at h
    . simp at h
theorem z2w {t:gm} {sz:Nat} (h:(P.info? t).map (fun i=>i.size)=some sz):za8 P (sizeOf t)=some sz:=by
  cases hi:P.info? t with
  |none=>rw [hi] at h;simp at h
  |some i =>
    rw [hi] at h;unfold sizeOf typeInfo;rw [zak,zak];show ((za8 P (match P.info? t with|some i=>pure i|none=>_)).bind _)=_;rw [hi];simp at h;show za8 P (pure i.size)=_;rw [h];rfl
theorem zsx {d : Nat} {t : gm} {a : Bool} {sh : List CK} (h : zg2 P d t = some (a, sh)) (hs : (P.info? t).map (fun i => i.size) = some sh.length) (xs : List Value) (off : Nat) (hl : off + sh.length <= xs.length) :
    za8 P (part t xs.toArray off)=some (valA a ((xs.drop off).take sh.length)):=by
  unfold part;rw [zak,yhe h]
  cases a with
  |true =>
    show za8 P (do let n <- sizeOf t;pure (Value.agg (xs.toArray.extract off (off+n))))=_;rw [zak,z2w hs];show some (Value.agg (xs.toArray.extract off (off+sh.length)))=_;rw [List.extract_toArray,List.extract_eq_take_drop,Nat.add_sub_cancel_left];rfl
  |false =>
    obtain ⟨c,rfl⟩:=ybm h;simp only [gg,jd,i4] at hl ⊢;show za8 P (match xs.toArray[off]? with|some v=>pure v|none=>_)=_;rw [List.getElem?_toArray,fj (by omega),j0 (by omega)];rfl
theorem zx3 {g:gm->Option (Bool×List CK)}:∀ {l:List Field} {off:Nat} {sh:List CK} {xs ys:List Value},zor P g l off=some sh->xs.length=off+sh.length->ys.length=off+sh.length ->
    (l.all fun f=>match g f.type with|some (_,s)=>eqVs ((xs.drop f.offset).take s.length) ((ys.drop f.offset).take s.length)|none=>true)=eqVs (xs.drop off) (ys.drop off)
  |[],off,sh,xs,ys,h,hx,hy=>by
    simp only [zor,fd] at h;subst h;rw [iv (by simp at hx;omega),iv (by simp at hy;omega)];rfl
  |f :: l,off,sh,xs,ys,h,hx,hy=>by
    unfold zor at h;split at h
    . rename_i a s sz hg hs;split at h
      . rename_i hc;split at h
        . rename_i r hr;cases h;rw [fw] at hx hy;rw [jm,zx3 hr (by omega) (by omega),hg];simp only;rw [hc.2.1]
          have hr2:eqVs (xs.drop off) (ys.drop off)=(eqVs ((xs.drop off).take s.length) ((ys.drop off).take s.length) && eqVs (xs.drop (off+s.length)) (ys.drop (off+s.length))):=by
            conv=>lhs;rw [<- i7 s.length (xs.drop off),<- i7 s.length (ys.drop off)]
            rw [zl3 (by rw [ij,ij,je,je];omega),ln,ln]
          rw [hr2]
        . cases h
      . cases h
    . cases h
theorem zoq {g : gm -> Option (Bool × List CK)} : ∀ {l : List Field} {off : Nat} {sh : List CK} {xs : List Value}, zor P g l off = some sh -> xs.length = off + sh.length -> zem sh (xs.drop off) = true -> ∀ f, f ∈ l -> ∃ a s, g f.type = some (a, s) /\ (P.info? f.type).map (fun i => i.size) = some s.length /\ f.name ≠ "_" /\ f.offset + s.length <= xs.length /\ zem s ((xs.drop f.offset).take s.length) = true
  |[],off,sh,xs,h,hx,hf,f,hm=>by cases hm
  |f' :: l,off,sh,xs,h,hx,hf,f,hm=>by
    unfold zor at h;split at h
    . rename_i a s sz hg hs;split at h
      . rename_i hc;split at h
        . rename_i r hr;cases h;rw [fw] at hx;obtain ⟨f1,f2⟩:=zq6 hf;rw [ln] at f2
          cases hm with
          |head=>exact ⟨a,s,hg,by rw [hs,hc.2.2],hc.1,by rw [hc.2.1];omega,by rw [hc.2.1];exact f1⟩
          |tail _ hm=>exact zoq hr (by omega) f2 f hm
        . cases h
      . cases h
    . cases h
theorem z71 {s:List CK}:∀ (n k:Nat) {xs ys:List Value},xs.length=(k+n)*s.length->ys.length=(k+n)*s.length ->
    ((qs k n).all fun i=>eqVs ((xs.drop (i*s.length)).take s.length) ((ys.drop (i*s.length)).take s.length))=eqVs (xs.drop (k*s.length)) (ys.drop (k*s.length))
  |0,k,xs,ys,hx,hy=>by
    rw [iv (by rw [hx];exact fm _),iv (by rw [hy];exact fm _)];rfl
  |n+1,k,xs,ys,hx,hy=>by
    have e:(k+(n+1))*s.length=k*s.length+s.length+n*s.length:=by rw [jl,jl,m7];omega
    rw [p8,jm,z71 n (k+1) (by rw [hx];congr 1;omega) (by rw [hy];congr 1;omega)];rw [jl,m7,<- ln,<- ln,<- zl3 (by rw [ij,ij,je,je];omega),i7,i7]
theorem zz0 {s:List CK}:∀ {n:Nat} {xs:List Value},zem (f7 n s).flatten xs=true->∀ i,i<n->zem s ((xs.drop (i*s.length)).take s.length)=true
  |0,xs,h,i,hi=>by omega
  |n+1,xs,h,i,hi=>by
    rw [jb,ig] at h;obtain ⟨h1,h2⟩:=zq6 h
    cases i with
    |zero=>simpa using h1
    |succ i =>
      have:=zz0 h2 i (by omega);rw [ln] at this;rw [jl,m7,Nat.add_comm];exact this
theorem ykk:∀ (d:Nat) {t:gm} {a:Bool} {sh:List CK},zg2 P d t=some (a,sh)->∀ {xs ys:List Value},zem sh xs=true->zem sh ys=true->za8 P (kw d t (valA a xs) (valA a ys))=some (eqVs xs ys):=by
  intro d
  induction d with
  |zero=>intro t a sh h;simp [zg2] at h
  |succ d ih =>
    intro t a sh h xs ys hx hy;have hpu:∀ {α:Type} (v:α),za8 P (pure v:Sem α)=some v:=fun v=>rfl;unfold zg2 at h;unfold kw;rw [zak]
    cases hu:P.underlying t with
    |none=>rw [hu] at h;simp at h
    |some u =>
      rw [hu] at h;rw [zcg hu]
      cases u with
      |int k =>
        simp at h;obtain ⟨rfl,rfl⟩:=h;obtain ⟨v,rfl,h1⟩:=zn9 hx;obtain ⟨w,rfl,h2⟩:=zn9 hy
        . cases v<;>simp [ckV] at h1;cases w<;>simp [ckV] at h2;subst h1 h2
          simp [valA,eqVs,znk,hpu]
      |bool =>
        simp at h;obtain ⟨rfl,rfl⟩:=h;obtain ⟨v,rfl,h1⟩:=zn9 hx;obtain ⟨w,rfl,h2⟩:=zn9 hy
        . cases v<;>simp [ckV] at h1;cases w<;>simp [ckV] at h2
          simp [valA,eqVs,znk,hpu]
      |string =>
        simp at h;obtain ⟨rfl,rfl⟩:=h;obtain ⟨v,rfl,h1⟩:=zn9 hx;obtain ⟨w,rfl,h2⟩:=zn9 hy
        . cases v<;>simp [ckV] at h1;cases w<;>simp [ckV] at h2
          simp [valA,eqVs,znk,hpu]
      |struct fs =>
        simp only at h;split at h
        . simp at h
        . rename_i hst;split at h
          . rename_i l hl;simp at h;obtain ⟨rfl,rfl⟩:=h;have lx:=zp9 hx;have ly:=zp9 hy;have hall:=zx3 hl (by rw [lx];omega) (by rw [ly];omega);rw [gl,gl] at hall;simp only [valA,if_true,fe];rw [zak];show (((some P:Option gn)).bind _)=_;simp only [fe,zAd hst];rw [zak];show ((za8 P (forIn fs _ _)).bind _)=_;rw [<- Array.forIn_toList];rw [zz4 (P:=P) (none,()) (some false,()) _ (fun f=>match zg2 P d f.type with|some (_,s)=>eqVs ((xs.drop f.offset).take s.length) ((ys.drop f.offset).take s.length)|none=>true) fs.toList ?_]
            . rw [hall];cases eqVs xs ys<;>rfl
            . intro f hf;obtain ⟨a,s,g1,g2,g3,g4,g5⟩:=zoq hl (by rw [lx];omega) (by rw [gl];exact hx) f hf;obtain ⟨a',s',g1',_,_,g4',g5'⟩:=zoq hl (by rw [ly];omega) (by rw [gl];exact hy) f hf;rw [g1] at g1';cases g1';rw [zAc g3,zak,zsx g1 g2 _ _ g4];simp only [fe];rw [zak,zsx g1 g2 _ _ g4'];simp only [fe];rw [zak,ih g1 g5 g5',g1];simp only [fe];have hq:∀ q:Bool,za8 P (if (!q)=true then pure (ForInStep.done (some false,())) else pure (ForInStep.yield (none,())):Sem (ForInStep (Option Bool×Unit)))=some (if q=true then .yield (none,()) else .done (some false,())):=by intro q;cases q<;>rfl
              exact hq _
          . simp at h
      |array n e =>
        simp only at h;split at h
        . rename_i ae se sz hse hsz;split at h
          . rename_i hc;subst hc;simp at h;obtain ⟨rfl,rfl⟩:=h;have lx:=zp9 hx;have ly:=zp9 hy;have hlen:(f7 n se).flatten.length=n*se.length:=by simp
            rw [hlen] at lx ly;simp only [valA,if_true,fe];rw [zak,z2w hsz];simp only [fe,z2p];rw [zak,zz4 (P:=P) (none,()) (some false,()) _ (fun i=>eqVs ((xs.drop (i*se.length)).take se.length) ((ys.drop (i*se.length)).take se.length)) (qs 0 n) ?_]
            . rw [z71 n 0 (by rw [lx];congr 1;omega) (by rw [ly];congr 1;omega),Nat.zero_mul,gl,gl];cases eqVs xs ys<;>rfl
            . intro i hi;have hin:i<n:=by have:=List.mem_range'_1.1 hi;omega
              have hle:i*se.length+se.length<=n*se.length:=by
                have:=Nat.mul_le_mul_right se.length (show i+1<=n by omega);rw [jl,m7] at this;exact this
              rw [zak,zsx hse hsz _ _ (by omega)];simp only [fe];rw [zak,zsx hse hsz _ _ (by omega)];simp only [fe];rw [zak,ih hse (zz0 hx i hin) (zz0 hy i hin)];simp only [fe];have hq:∀ q:Bool,za8 P (if (!q)=true then pure (ForInStep.done (some false,())) else pure (ForInStep.yield (none,())):Sem (ForInStep (Option Bool×Unit)))=some (if q=true then .yield (none,()) else .done (some false,())):=by intro q;cases q<;>rfl
              exact hq _
          . simp at h
        . simp at h
      |_=>simp at h
variable {Γ:Env} {S:TS} {t:gm} {x y:f6}
theorem zqt {sh:List CK} {l m:List T} {vs ws:List Value} (ht:zg2 P 10000 t=some (true,sh)) (hq:P.eqGuardType P.depth t=false) (hl:zgl l=some vs) (hm:zgl m=some ws) (hx:zem sh vs=true) (hy:zem sh ws=true) {b:Bool} (hb:eqVs vs ws=b) :
    tBin P Γ S t .eql x y (.agg l) (.agg m)=some (.bool b)/\tBin P Γ S t .neq x y (.agg l) (.agg m)=some (.bool (!b)):=by
  have h:za8 P (qx t (.agg vs.toArray) (.agg ws.toArray))=some b:=by rw [<- hb];exact ykk 10000 ht hx hy
  have hg:∀ op,op=.eql\/op=.neq->za8 P (eqGuard op t x y (.agg vs.toArray) (.agg ws.toArray))=some ():=by
    intro op hop;rcases hop with rfl|rfl
    . show za8 P (if !(P.eqGuardType P.depth t) then pure () else _)=some ();rw [hq];rfl
    . show za8 P (if !(P.eqGuardType P.depth t) then pure () else _)=some ();rw [hq];rfl
  have he:za8 P (binOp .eql t (.agg vs.toArray) (.agg ws.toArray))=some (.bool b):=by
    show za8 P (do pure (r9 (<- qx t (.agg vs.toArray) (.agg ws.toArray))):Sem Value)=_;rw [zak,h];rfl
  have hn:za8 P (binOp .neq t (.agg vs.toArray) (.agg ws.toArray))=some (.bool (!b)):=by
    show za8 P (do pure (r9 (!(<- qx t (.agg vs.toArray) (.agg ws.toArray)))):Sem Value)=_;rw [zak,h];rfl
  constructor
  . show zon P t .eql x y _ _=_;unfold zon;rw [hl,hm];simp only;rw [zak,hg _ (.inl rfl)];show (match za8 P (binOp .eql t (.agg vs.toArray) (.agg ws.toArray)) with|some (.bool r)=>some (T.bool r)|_=>none)=_;rw [he]
  . show zon P t .neq x y _ _=_;unfold zon;rw [hl,hm];simp only;rw [zak,hg _ (.inr rfl)];show (match za8 P (binOp .neq t (.agg vs.toArray) (.agg ws.toArray)) with|some (.bool r)=>some (T.bool r)|_=>none)=_;rw [hn]
theorem zlv:∀ {a b:List T} {x y:List Value},zgl a=some x->zgl b=some y->zgl (a++b)=some (x++y)
  |[],b,x,y,h,h2=>by simp only [zgl,fd] at h;subst h;exact h2
  |t :: a,b,x,y,h,h2=>by
    unfold zgl at h;split at h
    . rename_i v r e1 e2;cases h;rw [gp];unfold zgl;rw [e1,zlv e2 h2];rfl
    . cases h
theorem z2x {k:ir}:∀ {a b:List Int},a.length=b.length->eqVs (a.map (jg k)) (b.map (jg k))=decide (a=b)
  |[],[],_=>rfl
  |x :: a,y :: b,h=>by
    rw [iz,iz,eqVs,z2x (Nat.succ.inj h)];simp only [znk,ow,Bool.decide_and]
    congr 1
  |[],_ :: _,h=>by simp at h
  |_ :: _,[],h=>by simp at h
theorem zz5 {k:ir} {n:Nat} (a b:Ar n):eqVs (a.l.map (jg k)) (b.l.map (jg k))=decide (a=b):=by
  rw [z2x (by rw [a.h,b.h])];exact decide_eq_decide.2 (Ar.eq_iff.symm)
theorem z2t {k:ir}:∀ {l:List Int} {r:List CK} {vs:List Value},zem r vs=true->zem (f7 l.length (.int k)++r) (l.map (jg k)++vs)=true
  |[],r,vs,h=>h
  |x :: l,r,vs,h=>by
    rw [gg,jb,iz,gp,gp,zem,z2t h];simp [ckV]
end
section
variable {k:ir} {n m:Nat} (a b:Ar n) (r xs:List T)
theorem sgT (h:n<=m):(a.l.map (fg k)++r).take m=a.l.map (fg k)++r.take (m - n):=by
  rw [pa,ii (by rw [fq,a.h];exact h),fq,a.h]
theorem sgT1 (h:n<=m):(a.l.map (fg k)).take m=a.l.map (fg k):=ii (by rw [fq,a.h];exact h)
theorem sgD (h:n<=m):(a.l.map (fg k)++r).drop m=r.drop (m - n):=by
  rw [mg,iv (by rw [fq,a.h];exact h),ge,fq,a.h]
theorem sgD1 (h:n<=m):(a.l.map (fg k)).drop m=[]:=iv (by rw [fq,a.h];exact h)
theorem sgG (h:n<=m):(a.l.map (fg k)++r)[m]?=r[m - n]?:=by
  rw [il (by rw [fq,a.h];exact h),fq,a.h]
theorem splA:spl (a.l.map (fg k)++r) 0 (b.l.map (fg k)++xs)=b.l.map (fg k)++spl r 0 xs:=by
  unfold spl;rw [m6,m6,ge,ge,gi,i4,i4,fw,fq,b.h,<- ln];congr 3;rw [mg,iv (by rw [fq,a.h];exact fm _),fq,a.h,Nat.sub_self];rfl
theorem ynm:spl (a.l.map (fg k)++r) 0 (b.l.map (fg k))=b.l.map (fg k)++r:=by
  have:=splA (k:=k) a b r [];rw [gr] at this;rw [this,yll]
theorem ynl:spl (a.l.map (fg k)) 0 (b.l.map (fg k))=b.l.map (fg k):=arSpl a b
theorem splS (h:n<=m):spl (a.l.map (fg k)++r) m xs=a.l.map (fg k)++spl r (m - n) xs:=by
  unfold spl;rw [sgT a r h,mg,iv (by rw [fq,a.h];omega),fq,a.h,ge];simp only [gi];congr 4;omega
theorem z37 (v:T) (h:n<=m):(a.l.map (fg k)++r).set m v=a.l.map (fg k)++r.set (m - n) v:=by
  rw [List.set_append,zAd (by rw [fq,a.h];omega),fq,a.h]
end
theorem zom {k:ir} {n off:Nat} {L r:List T} (a:Ar n) {i:Int} (h:0<=i/\i<(n:Int)) (hL:L.drop off=a.l.map (fg k)++r:=by first|rfl | (simp (disch:=decide) only [gi,gr,fw,gp,ge,fq,gg,jd,Ar.len,sgD,sgD1,ku,gl,iy,ft,i4];done)):L[off+i.toNat]?=some (fg k (gx a.l i)):=by
  rw [<- k9,hL,gh (by rw [fq,a.h];omega),li,arIx a h];rfl
theorem zrb {k:ir} {n:Nat} {L r:List T} (a:Ar n) {i:Int} (h:0<=i/\i<(n:Int)) (hL:L=a.l.map (fg k)++r:=by first|rfl | (simp (disch:=decide) only [gi,gr,fw,gp,ge,fq,gg,jd,Ar.len,sgD,sgD1,ku,gl,iy,ft,i4];done)):L[i.toNat]?=some (fg k (gx a.l i)):=by
  have:=zom (off:=0) (L:=L) a h (by rw [gl];exact hL)
  rwa [i4] at this
theorem setAt {k:ir} {n off:Nat} {L L2 p r:List T} (a:Ar n) {i:Int} (v:Int) (h:0<=i/\i<(n:Int)) (hL:L=p++(a.l.map (fg k)++r):=by first|rfl | (simp (disch:=decide) only [gi,gr,fw,gp,ge,fq,gg,jd,Ar.len,sgD,sgD1,ku,gl,iy,ft,i4];done)) (hp:p.length=off:=by first|rfl | (simp (disch:=decide) only [gi,gr,fw,gp,ge,fq,gg,jd,Ar.len,sgD,sgD1,ku,gl,iy,ft,i4];done)) (h2:L2=p++((a.set i v).l.map (fg k)++r):=by first|rfl | (simp (disch:=decide) only [gi,gr,fw,gp,ge,fq,gg,jd,Ar.len,sgD,sgD1,ku,gl,iy,ft,i4];done)):spl L (off+i.toNat) [fg k v]=L2:=by
  subst hL h2;have hs:=you (k:=k) a v h;unfold spl at hs ⊢;have hi:i.toNat+1<=n:=by omega
  rw [<- hs];simp only [gg,jd,i4];rw [pa,ii (show p.length<=off+i.toNat by omega),show off+i.toNat - p.length=i.toNat by omega,jw (by rw [fq,a.h];omega)];rw [mg,iv (show p.length<=off+i.toNat+1 by omega),show off+i.toNat+1 - p.length=i.toNat+1 by omega,ge,qh (by rw [fq,a.h];omega)];simp only [gi]
theorem ybp {k:ir} {n:Nat} {L L2 r:List T} (a:Ar n) {i:Int} (v:Int) (h:0<=i/\i<(n:Int)) (hL:L=a.l.map (fg k)++r:=by first|rfl | (simp (disch:=decide) only [gi,gr,fw,gp,ge,fq,gg,jd,Ar.len,sgD,sgD1,ku,gl,iy,ft,i4];done)) (h2:L2=(a.set i v).l.map (fg k)++r:=by first|rfl | (simp (disch:=decide) only [gi,gr,fw,gp,ge,fq,gg,jd,Ar.len,sgD,sgD1,ku,gl,iy,ft,i4];done)):spl L i.toNat [fg k v]=L2:=by
  have:=setAt (off:=0) (p:=[]) (L:=L) (L2:=L2) a v h hL rfl h2
  rwa [i4] at this
/-! bits of integers -/
def iAnd (k:ir) (a b:Int):Int:=k.wrap (i6 k.bits a &&& i6 k.bits b).toNat
def iOr (k:ir) (a b:Int):Int:=k.wrap (i6 k.bits a ||| i6 k.bits b).toNat
def iXor (k:ir) (a b:Int):Int:=k.wrap (i6 k.bits a ^^^ i6 k.bits b).toNat
def zht (k:ir) (a b:Int):Int:=k.wrap (i6 k.bits a &&& ~~~ i6 k.bits b).toNat
def iShl (k:ir) (a b:Int):Int:=k.wrap (a*2 ^ (min b.toNat k.bits))
def iShr (k:ir) (a b:Int):Int:=a.fdiv (2 ^ (min b.toNat k.bits))
theorem yi7 {k:ir} {a b:Int}:zbr .and k k a b=some (.int k (iAnd k a b)):=yof
theorem yoa {k:ir} {a b:Int}:zbr .or k k a b=some (.int k (iOr k a b)):=ib_or
theorem yi6 {k:ir} {a b:Int}:zbr .xor k k a b=some (.int k (iXor k a b)):=yoc
theorem ydr {k:ir} {a b:Int}:zbr .andNot k k a b=some (.int k (zht k a b)):=by simp [zbr,zht]
theorem yn9 {k k':ir} {a b:Int} (h:0<=b):zbr .shl k k' a b=some (.int k (iShl k a b)):=yoe h
theorem zxk {k k':ir} {a b:Int} (h:0<=b):zbr .shr k k' a b=some (.int k (iShr k a b)):=yod h
theorem zlu {t:T} {l:List T} {v:Value} {r:List Value} (h:yf1 t=some v) (k:zgl l=some r):zgl (t :: l)=some (v :: r):=by
  unfold zgl;rw [h,k]
theorem zqa {c:CK} {v:Value} {r:List CK} {vs:List Value} (h:ckV c v=true) (k:zem r vs=true):zem (c :: r) (v :: vs)=true:=by
  rw [zem,h,k];rfl
theorem z8h (k:ir) (n:Int):ckV (.int k) (.int k n)=true:=by simp [ckV]
theorem z44 {k:ir} {n:Nat} (a:Ar n) {r:List CK} {vs:List Value} (h:zem r vs=true):zem (f7 n (.int k)++r) (a.l.map (jg k)++vs)=true:=by
  have:=z2t (k:=k) (l:=a.l) h
  rwa [a.h] at this
theorem z7w {k:ir} {n:Nat} (a:Ar n):zem (f7 n (.int k)) (a.l.map (jg k))=true:=by
  have:=z44 (k:=k) a (r:=[]) (vs:=[]) rfl
  rwa [gr,gr] at this
theorem z47 {k:ir} {n:Nat} (a b:Ar n) (x y:List Value):eqVs (a.l.map (jg k)++x) (b.l.map (jg k)++y)=(decide (a=b) && eqVs x y):=by
  rw [zl3 (by rw [fq,fq,a.h,b.h]),zz5]
theorem yb9 {α:Type} {f:α->T} (z:α):∀ n:Nat,rep n (f z).cells=vecC f (f7 n z)
  |0=>rfl
  |n+1=>by
    have:=yb9 (f:=f) z n;unfold rep vecC at this ⊢;rw [jb,ig,this,jb,iz,i9]
theorem yd1 {k:ir} {m:Nat} (l:List Int):(T.agg (l.map (fg k))).ids m=true:=zgm l
theorem ziy:∀ (a b:List T),ra (a++b)=(ra a && ra b)
  |[],b=>by simp [ra]
  |t :: a,b=>by rw [gp,ra,ra,ziy a b,Bool.and_assoc]
theorem yfd (l:List T):l++[]=l:=gr l
theorem z3p (a b c:List T):a++b++c=a++(b++c):=gi a b c
theorem zui (a b:List T):(a++b).length=a.length+b.length:=fw
theorem z0g (a b:List T) (p:T->Bool):(a++b).all p=(a.all p && b.all p):=List.all_append
theorem z0q (n:Nat):([]:List T).take n=[]:=List.take_nil
theorem z20 (n:Nat):([]:List T).drop n=[]:=List.drop_nil
noncomputable def LL:List Nat:=[3,4,5,6,7,8,9,10,11,12,13,14,15,16,17,18,19,20,21,22,23,24,25,26,27,28,29,30,31,32,33,34,35,36,37,38,39,40,41,42,43,44,45,46,47,48,49,50,51,52,53,54,55,56,57,58,59,60,61,62,63,64,65,66,67,68,69,70,71,72,73,74,75,76,77,78,79,80,81,82,83,84,85,86,87,88,89,90,91,92,93,94,95,96,97]
def GG:List Nat:=[]
noncomputable def EE (ax:Axs):Env:=zhu Try.prog LL ax
theorem zfj (ax:Axs):zec Try.prog (EE ax):=yei _ _ _
theorem z7s:zni Try.prog GG LL=true:=by kernel_rfl
theorem ygs:Try.prog.follows .mixedOrders=true:=by kernel_rfl
noncomputable def aggO:Option (List T)->Option T
  |some l=>some (.agg l)
  |none=>none
theorem fn4 (ax:Axs):(EE ax).fn.at 4=some Try.f4:=by kernel_rfl
theorem fn8 (ax:Axs):(EE ax).fn.at 8=some Try.f8:=by kernel_rfl
theorem fn9 (ax:Axs):(EE ax).fn.at 9=some Try.f9:=by kernel_rfl
theorem fn10 (ax:Axs):(EE ax).fn.at 10=some Try.f10:=by kernel_rfl
theorem fn11 (ax:Axs):(EE ax).fn.at 11=some Try.f11:=by kernel_rfl
theorem fn12 (ax:Axs):(EE ax).fn.at 12=some Try.f12:=by kernel_rfl
theorem fn13 (ax:Axs):(EE ax).fn.at 13=some Try.f13:=by kernel_rfl
theorem fn14 (ax:Axs):(EE ax).fn.at 14=some Try.f14:=by kernel_rfl
theorem fn15 (ax:Axs):(EE ax).fn.at 15=some Try.f15:=by kernel_rfl
theorem fn16 (ax:Axs):(EE ax).fn.at 16=some Try.f16:=by kernel_rfl
theorem fn17 (ax:Axs):(EE ax).fn.at 17=some Try.f17:=by kernel_rfl
theorem fn18 (ax:Axs):(EE ax).fn.at 18=some Try.f18:=by kernel_rfl
theorem fn19 (ax:Axs):(EE ax).fn.at 19=some Try.f19:=by kernel_rfl
theorem fn22 (ax:Axs):(EE ax).fn.at 22=some Try.f22:=by kernel_rfl
theorem fn23 (ax:Axs):(EE ax).fn.at 23=some Try.f23:=by kernel_rfl
theorem fn24 (ax:Axs):(EE ax).fn.at 24=some Try.f24:=by kernel_rfl
theorem fn26 (ax:Axs):(EE ax).fn.at 26=some Try.f26:=by kernel_rfl
theorem fn27 (ax:Axs):(EE ax).fn.at 27=some Try.f27:=by kernel_rfl
theorem fn28 (ax:Axs):(EE ax).fn.at 28=some Try.f28:=by kernel_rfl
theorem fn29 (ax:Axs):(EE ax).fn.at 29=some Try.f29:=by kernel_rfl
theorem fn30 (ax:Axs):(EE ax).fn.at 30=some Try.f30:=by kernel_rfl
theorem fn31 (ax:Axs):(EE ax).fn.at 31=some Try.f31:=by kernel_rfl
theorem fn32 (ax:Axs):(EE ax).fn.at 32=some Try.f32:=by kernel_rfl
theorem fn33 (ax:Axs):(EE ax).fn.at 33=some Try.f33:=by kernel_rfl
theorem fn34 (ax:Axs):(EE ax).fn.at 34=some Try.f34:=by kernel_rfl
theorem fn35 (ax:Axs):(EE ax).fn.at 35=some Try.f35:=by kernel_rfl
theorem fn36 (ax:Axs):(EE ax).fn.at 36=some Try.f36:=by kernel_rfl
theorem fn37 (ax:Axs):(EE ax).fn.at 37=some Try.f37:=by kernel_rfl
theorem fn38 (ax:Axs):(EE ax).fn.at 38=some Try.f38:=by kernel_rfl
theorem fn39 (ax:Axs):(EE ax).fn.at 39=some Try.f39:=by kernel_rfl
theorem fn40 (ax:Axs):(EE ax).fn.at 40=some Try.f40:=by kernel_rfl
theorem fn41 (ax:Axs):(EE ax).fn.at 41=some Try.f41:=by kernel_rfl
theorem fn42 (ax:Axs):(EE ax).fn.at 42=some Try.f42:=by kernel_rfl
theorem fn43 (ax:Axs):(EE ax).fn.at 43=some Try.f43:=by kernel_rfl
theorem fn44 (ax:Axs):(EE ax).fn.at 44=some Try.f44:=by kernel_rfl
theorem fn45 (ax:Axs):(EE ax).fn.at 45=some Try.f45:=by kernel_rfl
theorem fn46 (ax:Axs):(EE ax).fn.at 46=some Try.f46:=by kernel_rfl
theorem fn50 (ax:Axs):(EE ax).fn.at 50=some Try.f50:=by kernel_rfl
theorem fn51 (ax:Axs):(EE ax).fn.at 51=some Try.f51:=by kernel_rfl
theorem fn52 (ax:Axs):(EE ax).fn.at 52=some Try.f52:=by kernel_rfl
theorem fn53 (ax:Axs):(EE ax).fn.at 53=some Try.f53:=by kernel_rfl
theorem fn54 (ax:Axs):(EE ax).fn.at 54=some Try.f54:=by kernel_rfl
theorem fn55 (ax:Axs):(EE ax).fn.at 55=some Try.f55:=by kernel_rfl
theorem fn56 (ax:Axs):(EE ax).fn.at 56=some Try.f56:=by kernel_rfl
theorem fn57 (ax:Axs):(EE ax).fn.at 57=some Try.f57:=by kernel_rfl
theorem fn58 (ax:Axs):(EE ax).fn.at 58=some Try.f58:=by kernel_rfl
theorem fn59 (ax:Axs):(EE ax).fn.at 59=some Try.f59:=by kernel_rfl
theorem fn60 (ax:Axs):(EE ax).fn.at 60=some Try.f60:=by kernel_rfl
theorem fn61 (ax:Axs):(EE ax).fn.at 61=some Try.f61:=by kernel_rfl
theorem fn62 (ax:Axs):(EE ax).fn.at 62=some Try.f62:=by kernel_rfl
theorem fn63 (ax:Axs):(EE ax).fn.at 63=some Try.f63:=by kernel_rfl
theorem fn64 (ax:Axs):(EE ax).fn.at 64=some Try.f64:=by kernel_rfl
theorem fn65 (ax:Axs):(EE ax).fn.at 65=some Try.f65:=by kernel_rfl
theorem fn67 (ax:Axs):(EE ax).fn.at 67=some Try.f67:=by kernel_rfl
theorem fn68 (ax:Axs):(EE ax).fn.at 68=some Try.f68:=by kernel_rfl
theorem fn69 (ax:Axs):(EE ax).fn.at 69=some Try.f69:=by kernel_rfl
theorem fn70 (ax:Axs):(EE ax).fn.at 70=some Try.f70:=by kernel_rfl
theorem fn72 (ax:Axs):(EE ax).fn.at 72=some Try.f72:=by kernel_rfl
theorem fn73 (ax:Axs):(EE ax).fn.at 73=some Try.f73:=by kernel_rfl
theorem fn74 (ax:Axs):(EE ax).fn.at 74=some Try.f74:=by kernel_rfl
theorem fn75 (ax:Axs):(EE ax).fn.at 75=some Try.f75:=by kernel_rfl
theorem fn76 (ax:Axs):(EE ax).fn.at 76=some Try.f76:=by kernel_rfl
theorem fn77 (ax:Axs):(EE ax).fn.at 77=some Try.f77:=by kernel_rfl
theorem fn78 (ax:Axs):(EE ax).fn.at 78=some Try.f78:=by kernel_rfl
theorem fn79 (ax:Axs):(EE ax).fn.at 79=some Try.f79:=by kernel_rfl
theorem fn80 (ax:Axs):(EE ax).fn.at 80=some Try.f80:=by kernel_rfl
theorem fn81 (ax:Axs):(EE ax).fn.at 81=some Try.f81:=by kernel_rfl
theorem fn82 (ax:Axs):(EE ax).fn.at 82=some Try.f82:=by kernel_rfl
theorem fn83 (ax:Axs):(EE ax).fn.at 83=some Try.f83:=by kernel_rfl
theorem fn84 (ax:Axs):(EE ax).fn.at 84=some Try.f84:=by kernel_rfl
theorem fn85 (ax:Axs):(EE ax).fn.at 85=some Try.f85:=by kernel_rfl
theorem fn86 (ax:Axs):(EE ax).fn.at 86=some Try.f86:=by kernel_rfl
theorem fn87 (ax:Axs):(EE ax).fn.at 87=some Try.f87:=by kernel_rfl
theorem fn88 (ax:Axs):(EE ax).fn.at 88=some Try.f88:=by kernel_rfl
theorem fn89 (ax:Axs):(EE ax).fn.at 89=some Try.f89:=by kernel_rfl
theorem fn90 (ax:Axs):(EE ax).fn.at 90=some Try.f90:=by kernel_rfl
theorem fn91 (ax:Axs):(EE ax).fn.at 91=some Try.f91:=by kernel_rfl
theorem fn92 (ax:Axs):(EE ax).fn.at 92=some Try.f92:=by kernel_rfl
theorem fn95 (ax:Axs):(EE ax).fn.at 95=some Try.f95:=by kernel_rfl
theorem fn96 (ax:Axs):(EE ax).fn.at 96=some Try.f96:=by kernel_rfl
theorem ti3 (ax:Axs):(EE ax).ti.at 3=some ⟨.int .i64,1,8,[.int .i64 0]⟩:=by kernel_rfl
theorem ti4 (ax:Axs):(EE ax).ti.at 4=some ⟨.bool,1,1,[.bool false]⟩:=by kernel_rfl
theorem ti5 (ax:Axs):(EE ax).ti.at 5=some ⟨.int .u8,1,1,[.int .u8 0]⟩:=by kernel_rfl
theorem ti9 (ax:Axs):(EE ax).ti.at 9=some ⟨.string,1,16,[.string ⟨#[]⟩]⟩:=by kernel_rfl
theorem ti22 (ax:Axs):(EE ax).ti.at 22=some ⟨.slice 93,1,24,[.slice none 0 0]⟩:=by kernel_rfl
theorem ti23 (ax:Axs):(EE ax).ti.at 23=some ⟨.slice 95,1,24,[.slice none 0 0]⟩:=by kernel_rfl
theorem ti24 (ax:Axs):(EE ax).ti.at 24=some ⟨.slice 98,1,24,[.slice none 0 0]⟩:=by kernel_rfl
theorem ykj (ax:Axs) (S:TS) (b off N:Nat):zao (EE ax) S 26 0 (.ptr b off N)=bif S.has b N then some (.ptr b (off+0) N) else none:=by kernel_rfl
theorem yki (ax:Axs) (S:TS) (b off N:Nat):zao (EE ax) S 26 1 (.ptr b off N)=bif S.has b N then some (.ptr b (off+1) N) else none:=by kernel_rfl
theorem ykh (ax:Axs) (S:TS) (b off N:Nat):zao (EE ax) S 26 2 (.ptr b off N)=bif S.has b N then some (.ptr b (off+2) N) else none:=by kernel_rfl
noncomputable def fs26:Array Field:=match Try.prog.underlying 26 with|some (.struct fs)=>fs|_=>#[]
theorem ti26 (ax:Axs):(EE ax).ti.at 26=some ⟨.struct fs26,3,72,[.slice none 0 0,.slice none 0 0,.slice none 0 0]⟩:=by kernel_rfl
theorem ti28 (ax:Axs):(EE ax).ti.at 28=some ⟨.slice 59,1,24,[.slice none 0 0]⟩:=by kernel_rfl
theorem sr28 (ax:Axs):srcT (EE ax) 28=true:=by kernel_rfl
theorem ykg (ax:Axs) (S:TS) (b off N:Nat):zao (EE ax) S 30 0 (.ptr b off N)=bif S.has b N then some (.ptr b (off+0) N) else none:=by kernel_rfl
theorem yjy (ax:Axs) (S:TS) (l:List T):zao (EE ax) S 30 0 (.cp l)=some (.cp (l.drop 0)):=by kernel_rfl
theorem ykf (ax:Axs) (S:TS) (b off N:Nat):zao (EE ax) S 30 1 (.ptr b off N)=bif S.has b N then some (.ptr b (off+1) N) else none:=by kernel_rfl
theorem zqd (ax:Axs) (S:TS) (l:List T):zao (EE ax) S 30 1 (.cp l)=some (.cp (l.drop 1)):=by kernel_rfl
theorem yke (ax:Axs) (S:TS) (b off N:Nat):zao (EE ax) S 30 2 (.ptr b off N)=bif S.has b N then some (.ptr b (off+2) N) else none:=by kernel_rfl
theorem zu0 (ax:Axs) (S:TS) (l:List T):zao (EE ax) S 30 2 (.cp l)=some (.cp (l.drop 2)):=by kernel_rfl
noncomputable def fs30:Array Field:=match Try.prog.underlying 30 with|some (.struct fs)=>fs|_=>#[]
theorem bt30 (ax:Axs) (ρ:f6->T) (parts:List (Nat×f6)):zj4 (EE ax) ρ 30 parts=aggO (zb4 [.int .i64 0,.int .i64 0,.int .i64 0] (zbi (zfn (EE ax) fs30) ρ parts)):=by kernel_rfl
theorem ti30 (ax:Axs):(EE ax).ti.at 30=some ⟨.struct fs30,3,24,[.int .i64 0,.int .i64 0,.int .i64 0]⟩:=by kernel_rfl
theorem yiy (ax:Axs):zfn (EE ax) fs30 0=some (0,1):=by kernel_rfl
theorem yix (ax:Axs):zfn (EE ax) fs30 1=some (1,1):=by kernel_rfl
theorem yiw (ax:Axs):zfn (EE ax) fs30 2=some (2,1):=by kernel_rfl
theorem ti40 (ax:Axs):(EE ax).ti.at 40=some ⟨.slice 30,1,24,[.slice none 0 0]⟩:=by kernel_rfl
theorem sr40 (ax:Axs):srcT (EE ax) 40=true:=by kernel_rfl
theorem tz43 (ax:Axs):(EE ax).ti.at 43=some ⟨.array 10 3,10,80,zVs 10 .i64⟩:=by kernel_rfl
theorem aq43 (ax:Axs) (a b:Ar 10):(∀ (S:TS) (x y:f6),tBin Try.prog (EE ax) S 43 .eql x y (.agg (a.l.map (fg .i64))) (.agg (b.l.map (fg .i64)))=some (.bool (decide (a=b))))/\(∀ (S:TS) (x y:f6),tBin Try.prog (EE ax) S 43 .neq x y (.agg (a.l.map (fg .i64))) (.agg (b.l.map (fg .i64)))=some (.bool (!(decide (a=b))))):=⟨fun _ _ _=>(ya5 (e:=3) (by kernel_rfl) (by kernel_rfl) (by kernel_rfl) (by kernel_rfl) a b).1,fun _ _ _=>(ya5 (e:=3) (by kernel_rfl) (by kernel_rfl) (by kernel_rfl) (by kernel_rfl) a b).2⟩
theorem bz43 (ax:Axs):∀ (ρ:f6->T),zj4 (EE ax) ρ 43 []=some (.agg ((zA 10).l.map (fg .i64))):=fun _=>rfl
theorem ti48 (ax:Axs):(EE ax).ti.at 48=some ⟨.slice 3,1,24,[.slice none 0 0]⟩:=by kernel_rfl
theorem sr48 (ax:Axs):srcT (EE ax) 48=true:=by kernel_rfl
def zS56:List Value:=[.int .i64 0,.int .i64 0,.int .i64 0,.int .i64 0,.int .i64 0,.int .i64 0,.int .i64 0,.int .i64 0,.int .i64 0,.int .i64 0,.int .i64 0,.int .i64 0,.int .i64 0,.int .i64 0,.int .i64 0,.int .i64 0,.int .i64 0,.int .i64 0,.int .i64 0,.int .i64 0]
theorem yh2:zgj zS56=some ((zA 10).l.map (fg .i64)++((zA 10).l.map (fg .i64))):=rfl
theorem z5q:zS56.length=20:=rfl
theorem ykd (ax:Axs) (S:TS) (b off N:Nat):zao (EE ax) S 56 0 (.ptr b off N)=bif S.has b N then some (.ptr b (off+0) N) else none:=by kernel_rfl
theorem yjx (ax:Axs) (S:TS) (l:List T):zao (EE ax) S 56 0 (.cp l)=some (.cp (l.drop 0)):=by kernel_rfl
theorem ykc (ax:Axs) (S:TS) (b off N:Nat):zao (EE ax) S 56 1 (.ptr b off N)=bif S.has b N then some (.ptr b (off+10) N) else none:=by kernel_rfl
theorem yjw (ax:Axs) (S:TS) (l:List T):zao (EE ax) S 56 1 (.cp l)=some (.cp (l.drop 10)):=by kernel_rfl
noncomputable def fs56:Array Field:=match Try.prog.underlying 56 with|some (.struct fs)=>fs|_=>#[]
theorem bt56 (ax:Axs) (ρ:f6->T) (parts:List (Nat×f6)):zj4 (EE ax) ρ 56 parts=aggO (zb4 zS56 (zbi (zfn (EE ax) fs56) ρ parts)):=by kernel_rfl
theorem ti56 (ax:Axs):(EE ax).ti.at 56=some ⟨.struct fs56,20,160,zS56⟩:=by kernel_rfl
theorem yiv (ax:Axs):zfn (EE ax) fs56 0=some (0,10):=by kernel_rfl
theorem yiu (ax:Axs):zfn (EE ax) fs56 1=some (10,10):=by kernel_rfl
theorem ti57 (ax:Axs):(EE ax).ti.at 57=some ⟨.slice 87,1,24,[.slice none 0 0]⟩:=by kernel_rfl
def zS59:List Value:=[.int .i64 0,.int .i64 0,.int .i64 0,.int .i64 0,.int .i64 0,.int .i64 0,.int .i64 0,.int .i64 0,.int .i64 0,.int .i64 0,.int .i64 0,.int .i64 0,.int .i64 0,.int .i64 0,.int .i64 0,.int .i64 0,.int .i64 0,.int .i64 0,.int .i64 0,.int .i64 0,.int .i64 0,.int .i64 0,.slice none 0 0]
theorem yaj:zgj zS59=some (fg .i64 0 :: ((zA 10).l.map (fg .i64)++((zA 10).l.map (fg .i64)++[fg .i64 0,T.nils]))):=rfl
theorem zyn:zS59.length=23:=rfl
theorem ykb (ax:Axs) (S:TS) (b off N:Nat):zao (EE ax) S 59 0 (.ptr b off N)=bif S.has b N then some (.ptr b (off+0) N) else none:=by kernel_rfl
theorem yjv (ax:Axs) (S:TS) (l:List T):zao (EE ax) S 59 0 (.cp l)=some (.cp (l.drop 0)):=by kernel_rfl
theorem yka (ax:Axs) (S:TS) (b off N:Nat):zao (EE ax) S 59 1 (.ptr b off N)=bif S.has b N then some (.ptr b (off+1) N) else none:=by kernel_rfl
theorem yju (ax:Axs) (S:TS) (l:List T):zao (EE ax) S 59 1 (.cp l)=some (.cp (l.drop 1)):=by kernel_rfl
theorem yj9 (ax:Axs) (S:TS) (b off N:Nat):zao (EE ax) S 59 2 (.ptr b off N)=bif S.has b N then some (.ptr b (off+21) N) else none:=by kernel_rfl
theorem yj8 (ax:Axs) (S:TS) (b off N:Nat):zao (EE ax) S 59 3 (.ptr b off N)=bif S.has b N then some (.ptr b (off+22) N) else none:=by kernel_rfl
theorem yjt (ax:Axs) (S:TS) (l:List T):zao (EE ax) S 59 3 (.cp l)=some (.cp (l.drop 22)):=by kernel_rfl
noncomputable def fs59:Array Field:=match Try.prog.underlying 59 with|some (.struct fs)=>fs|_=>#[]
theorem bt59 (ax:Axs) (ρ:f6->T) (parts:List (Nat×f6)):zj4 (EE ax) ρ 59 parts=aggO (zb4 zS59 (zbi (zfn (EE ax) fs59) ρ parts)):=by kernel_rfl
theorem ti59 (ax:Axs):(EE ax).ti.at 59=some ⟨.struct fs59,23,200,zS59⟩:=by kernel_rfl
theorem ynw (ax:Axs):zfn (EE ax) fs59 0=some (0,1):=by kernel_rfl
theorem ynv (ax:Axs):zfn (EE ax) fs59 1=some (1,20):=by kernel_rfl
theorem yit (ax:Axs):zfn (EE ax) fs59 2=some (21,1):=by kernel_rfl
theorem ti63 (ax:Axs):(EE ax).ti.at 63=some ⟨.slice 48,1,24,[.slice none 0 0]⟩:=by kernel_rfl
noncomputable def fd74:TypeDesc:=match Try.prog.underlying 74 with|some d=>d|none=>.bool
theorem ti74 (ax:Axs):(EE ax).ti.at 74=some ⟨fd74,1,8,[.nilFunc]⟩:=by kernel_rfl
theorem ag74:aggT fd74=false:=by kernel_rfl
theorem ti75 (ax:Axs):(EE ax).ti.at 75=some ⟨.slice 56,1,24,[.slice none 0 0]⟩:=by kernel_rfl
theorem sr75 (ax:Axs):srcT (EE ax) 75=true:=by kernel_rfl
def zS84:List Value:=[.int .i64 0,.int .i64 0,.int .i64 0,.int .i64 0,.int .i64 0,.int .i64 0,.int .i64 0,.int .i64 0,.int .i64 0,.int .i64 0,.int .i64 0,.int .i64 0,.int .i64 0,.int .i64 0,.int .i64 0,.int .i64 0,.int .i64 0,.int .i64 0,.int .i64 0,.int .i64 0]
theorem yh1:zgj zS84=some ((zA 10).l.map (fg .i64)++((zA 10).l.map (fg .i64))):=rfl
theorem z5p:zS84.length=20:=rfl
theorem yj7 (ax:Axs) (S:TS) (b off N:Nat):zao (EE ax) S 84 0 (.ptr b off N)=bif S.has b N then some (.ptr b (off+0) N) else none:=by kernel_rfl
theorem yj6 (ax:Axs) (S:TS) (b off N:Nat):zao (EE ax) S 84 1 (.ptr b off N)=bif S.has b N then some (.ptr b (off+10) N) else none:=by kernel_rfl
noncomputable def fs84:Array Field:=match Try.prog.underlying 84 with|some (.struct fs)=>fs|_=>#[]
theorem bt84 (ax:Axs) (ρ:f6->T) (parts:List (Nat×f6)):zj4 (EE ax) ρ 84 parts=aggO (zb4 zS84 (zbi (zfn (EE ax) fs84) ρ parts)):=by kernel_rfl
theorem ti84 (ax:Axs):(EE ax).ti.at 84=some ⟨.struct fs84,20,160,zS84⟩:=by kernel_rfl
theorem yis (ax:Axs):zfn (EE ax) fs84 0=some (0,10):=by kernel_rfl
theorem yir (ax:Axs):zfn (EE ax) fs84 1=some (10,10):=by kernel_rfl
def zS86:List Value:=[.int .i64 0,.int .i64 0,.int .i64 0,.int .i64 0,.int .i64 0,.int .i64 0,.int .i64 0,.int .i64 0,.int .i64 0,.int .i64 0,.int .i64 0,.int .i64 0,.int .i64 0,.int .i64 0,.int .i64 0,.int .i64 0,.int .i64 0,.int .i64 0,.int .i64 0,.int .i64 0,.int .i64 0]
theorem yh0:zgj zS86=some (fg .i64 0 :: ((zA 10).l.map (fg .i64)++((zA 10).l.map (fg .i64)))):=rfl
theorem z5o:zS86.length=21:=rfl
theorem yj5 (ax:Axs) (S:TS) (b off N:Nat):zao (EE ax) S 86 0 (.ptr b off N)=bif S.has b N then some (.ptr b (off+0) N) else none:=by kernel_rfl
theorem yj4 (ax:Axs) (S:TS) (b off N:Nat):zao (EE ax) S 86 1 (.ptr b off N)=bif S.has b N then some (.ptr b (off+1) N) else none:=by kernel_rfl
noncomputable def fs86:Array Field:=match Try.prog.underlying 86 with|some (.struct fs)=>fs|_=>#[]
theorem bt86 (ax:Axs) (ρ:f6->T) (parts:List (Nat×f6)):zj4 (EE ax) ρ 86 parts=aggO (zb4 zS86 (zbi (zfn (EE ax) fs86) ρ parts)):=by kernel_rfl
theorem ti86 (ax:Axs):(EE ax).ti.at 86=some ⟨.struct fs86,21,168,zS86⟩:=by kernel_rfl
theorem ynu (ax:Axs):zfn (EE ax) fs86 0=some (0,1):=by kernel_rfl
theorem ynt (ax:Axs):zfn (EE ax) fs86 1=some (1,20):=by kernel_rfl
theorem ti87 (ax:Axs):(EE ax).ti.at 87=some ⟨.slice 86,1,24,[.slice none 0 0]⟩:=by kernel_rfl
theorem ti88 (ax:Axs):(EE ax).ti.at 88=some ⟨.slice 9,1,24,[.slice none 0 0]⟩:=by kernel_rfl
theorem sr88 (ax:Axs):srcT (EE ax) 88=true:=by kernel_rfl
theorem yjs (ax:Axs) (S:TS) (l:List T):zao (EE ax) S 93 0 (.cp l)=some (.cp (l.drop 0)):=by kernel_rfl
theorem yj3 (ax:Axs) (S:TS) (b off N:Nat):zao (EE ax) S 93 2 (.ptr b off N)=bif S.has b N then some (.ptr b (off+2) N) else none:=by kernel_rfl
theorem yj2 (ax:Axs) (S:TS) (b off N:Nat):zao (EE ax) S 93 3 (.ptr b off N)=bif S.has b N then some (.ptr b (off+3) N) else none:=by kernel_rfl
noncomputable def fs93:Array Field:=match Try.prog.underlying 93 with|some (.struct fs)=>fs|_=>#[]
theorem ti93 (ax:Axs):(EE ax).ti.at 93=some ⟨.struct fs93,4,40,[.string ⟨#[]⟩,.bool false,.int .i64 0,.int .i64 0]⟩:=by kernel_rfl
theorem yj1 (ax:Axs) (S:TS) (b off N:Nat):zao (EE ax) S 95 0 (.ptr b off N)=bif S.has b N then some (.ptr b (off+0) N) else none:=by kernel_rfl
theorem yj0 (ax:Axs) (S:TS) (b off N:Nat):zao (EE ax) S 95 1 (.ptr b off N)=bif S.has b N then some (.ptr b (off+1) N) else none:=by kernel_rfl
theorem yjz (ax:Axs) (S:TS) (b off N:Nat):zao (EE ax) S 95 2 (.ptr b off N)=bif S.has b N then some (.ptr b (off+2) N) else none:=by kernel_rfl
noncomputable def fs95:Array Field:=match Try.prog.underlying 95 with|some (.struct fs)=>fs|_=>#[]
theorem ti95 (ax:Axs):(EE ax).ti.at 95=some ⟨.struct fs95,3,24,[.int .i64 0,.int .i64 0,.int .i64 0]⟩:=by kernel_rfl
theorem yjr (ax:Axs) (S:TS) (l:List T):zao (EE ax) S 98 0 (.cp l)=some (.cp (l.drop 0)):=by kernel_rfl
theorem yjq (ax:Axs) (S:TS) (l:List T):zao (EE ax) S 98 1 (.cp l)=some (.cp (l.drop 1)):=by kernel_rfl
noncomputable def fs98:Array Field:=match Try.prog.underlying 98 with|some (.struct fs)=>fs|_=>#[]
theorem ti98 (ax:Axs):(EE ax).ti.at 98=some ⟨.struct fs98,2,24,[.string ⟨#[]⟩,.int .i64 0]⟩:=by kernel_rfl
theorem ynd (ax:Axs):(EE ax).ti.at 101=some ⟨.int .u64,1,8,[.int .u64 0]⟩:=by kernel_rfl
theorem ync (ax:Axs):(EE ax).ti.at 115=some ⟨.int .u64,1,8,[.int .u64 0]⟩:=by kernel_rfl
theorem ynb (ax:Axs):(EE ax).ti.at 118=some ⟨.slice 59,1,24,[.slice none 0 0]⟩:=by kernel_rfl
theorem el28 (ax:Axs):zdw (EE ax) 28=some ⟨.struct fs59,23,200,zS59⟩:=by kernel_rfl
theorem el40 (ax:Axs):zdw (EE ax) 40=some ⟨.struct fs30,3,24,[.int .i64 0,.int .i64 0,.int .i64 0]⟩:=by kernel_rfl
theorem el48 (ax:Axs):zdw (EE ax) 48=some ⟨.int .i64,1,8,[.int .i64 0]⟩:=by kernel_rfl
theorem el57 (ax:Axs):zdw (EE ax) 57=some ⟨.slice 86,1,24,[.slice none 0 0]⟩:=by kernel_rfl
theorem el63 (ax:Axs):zdw (EE ax) 63=some ⟨.slice 3,1,24,[.slice none 0 0]⟩:=by kernel_rfl
theorem el75 (ax:Axs):zdw (EE ax) 75=some ⟨.struct fs56,20,160,zS56⟩:=by kernel_rfl
theorem el87 (ax:Axs):zdw (EE ax) 87=some ⟨.struct fs86,21,168,zS86⟩:=by kernel_rfl
theorem el88 (ax:Axs):zdw (EE ax) 88=some ⟨.string,1,16,[.string ⟨#[]⟩]⟩:=by kernel_rfl
instance:Inhabited ByteArray:=⟨⟨#[]⟩⟩
theorem zb9 {α:Type} {n:Nat} {f:α->T} (h:∀ x,(f x).ids n=true):∀ (l:List α),kb n (l.map f)=true
  |[]=>rfl
  |x :: l=>by simp only [iz,kb,h,zb9 h l,gb]
theorem zkb {α:Type} {n:Nat} {f:α->T} (h:∀ x,kb n (f x).cells=true):∀ (l:List α),kb n (vecC f l)=true
  |[]=>rfl
  |x :: l=>by
    have:=zkb h l;unfold vecC at this ⊢;rw [iz,i9,zax,h,this];rfl
def ints (l:List Int):T:=.lst 1 (l.map (fg .i64))
theorem zp2 {n:Nat} (l:List Int):(ints l).ids n=true:=zb9 (fun _=>rfl) l
theorem z2h {n:Nat} (l:List Int):kb n (l.map (fg .i64))=true:=zb9 (fun _=>rfl) l
def z4y (l:List (List Int)):T:=.lst 1 (l.map ints)
theorem z2j {n:Nat} (l:List (List Int)):(z4y l).ids n=true:=zb9 (fun x=>zp2 x) l
theorem zxu {n:Nat} (l:List (List Int)):kb n (l.map ints)=true:=zb9 (fun x=>zp2 x) l
theorem z3g (x:List Int):(ints x).cells=[ints x]:=f5 rfl rfl
theorem z1v (x:List Int):m9 (ints x)=true:=f5 rfl rfl
def strs (l:List ByteArray):T:=.lst 1 (l.map T.str)
theorem z7e {n:Nat} (l:List ByteArray):(strs l).ids n=true:=zb9 (fun _=>rfl) l
theorem z2e {n:Nat} (l:List ByteArray):kb n (l.map T.str)=true:=zb9 (fun _=>rfl) l
structure Merg where
  kind:Int
  i:Int
  k:Int
deriving Inhabited,DecidableEq
def ziz (x:Merg):T:=.agg ([fg .i64 x.kind,fg .i64 x.i,fg .i64 x.k])
theorem z9v {n:Nat} (x:Merg):kb n (ziz x).cells=true:=by simp only [ziz,jc,qp,kb,zax,zgm,gb]
theorem zp5 {n:Nat} (x:Merg):(ziz x).ids n=true:=by simp only [ziz,qp,kb,zax,zgm,gb]
def zpb (x:Merg):List Value:=[jg .i64 x.kind,jg .i64 x.i,jg .i64 x.k]
def z36:List CK:=[CK.int .i64,CK.int .i64,CK.int .i64]
theorem zza (x:Merg):zgl ([fg .i64 x.kind,fg .i64 x.i,fg .i64 x.k])=some (zpb x):=(zlu rfl (zlu rfl (zlu rfl rfl)))
theorem zz1 (x:Merg):zem z36 (zpb x)=true:=(zqa (z8h _ _) (zqa (z8h _ _) (zqa (z8h _ _) rfl)))
theorem yhy (a b:Merg):a=b↔a.kind=b.kind/\a.i=b.i/\a.k=b.k:=by cases a;cases b;simp
theorem yeh (a b:Merg):eqVs (zpb a) (zpb b)=decide (a=b):=by
  rw [ks];simp [zpb,z47,zz5,eqVs,znk,and_assoc,yhy]
structure Pat where
  mask:Ar 10
  bits:Ar 10
deriving Inhabited,DecidableEq
def ePat (x:Pat):T:=.agg (x.mask.l.map (fg .i64)++(x.bits.l.map (fg .i64)))
theorem ydz {n:Nat} (x:Pat):kb n (ePat x).cells=true:=by simp only [ePat,jc,qp,kb,zax,zgm,gb]
theorem zss {n:Nat} (x:Pat):(ePat x).ids n=true:=by simp only [ePat,qp,kb,zax,zgm,gb]
theorem za2 (x:Pat):(ePat x).cells.length=20:=by simp only [ePat,jc,gg,jd,zui,fq,Ar.len]
theorem zn2 (x:Pat):(ePat x).cells.all m9=true:=by simp only [ePat,jc,jm,List.all_nil,z0g,zq9,zso,zpt,zsm,zsn,gb]
theorem z6i (n:Nat):rep n ((zA 10).l.map (fg .i64)++((zA 10).l.map (fg .i64)))=vecC ePat (f7 n (⟨zA 10,zA 10⟩:Pat)):=yb9 (f:=ePat) (⟨zA 10,zA 10⟩:Pat) n
def zs4 (x:Pat):List Value:=x.mask.l.map (jg .i64)++(x.bits.l.map (jg .i64))
def ybk:List CK:=f7 10 (CK.int .i64)++(f7 10 (CK.int .i64))
theorem z52 (x:Pat):zgl (x.mask.l.map (fg .i64)++(x.bits.l.map (fg .i64)))=some (zs4 x):=(zlv (zjb _) (zjb _))
theorem z7x (x:Pat):zem ybk (zs4 x)=true:=(z44 _ (z7w _))
theorem yfm (a b:Pat):a=b↔a.mask=b.mask/\a.bits=b.bits:=by cases a;cases b;simp
theorem ykl (a b:Pat):eqVs (zs4 a) (zs4 b)=decide (a=b):=by
  rw [ks];simp [zs4,z47,zz5,eqVs,znk,and_assoc,yfm]
structure Alt where
  link:Int
  mod:Pat
deriving Inhabited,DecidableEq
def eAlt (x:Alt):T:=.agg (fg .i64 x.link :: (x.mod.mask.l.map (fg .i64)++(x.mod.bits.l.map (fg .i64))))
theorem yd0 {n:Nat} (x:Alt):kb n (eAlt x).cells=true:=by simp only [eAlt,jc,qp,kb,zax,zgm,gb]
theorem zst {n:Nat} (x:Alt):(eAlt x).ids n=true:=by simp only [eAlt,qp,kb,zax,zgm,gb]
theorem zd2 (x:Alt):(eAlt x).cells.length=21:=by simp only [eAlt,jc,gg,jd,zui,fq,Ar.len]
def zs5 (x:Alt):List Value:=jg .i64 x.link :: (x.mod.mask.l.map (jg .i64)++(x.mod.bits.l.map (jg .i64)))
def ybl:List CK:=CK.int .i64 :: (f7 10 (CK.int .i64)++(f7 10 (CK.int .i64)))
theorem z53 (x:Alt):zgl (fg .i64 x.link :: (x.mod.mask.l.map (fg .i64)++(x.mod.bits.l.map (fg .i64))))=some (zs5 x):=(zlu rfl (zlv (zjb _) (zjb _)))
theorem z7y (x:Alt):zem ybl (zs5 x)=true:=(zqa (z8h _ _) (z44 _ (z7w _)))
theorem ym5 (a b:Alt):a=b↔a.link=b.link/\a.mod=b.mod:=by cases a;cases b;simp
theorem ykm (a b:Alt):eqVs (zs5 a) (zs5 b)=decide (a=b):=by
  rw [ks];simp [zs5,z47,zz5,eqVs,znk,and_assoc,yfm,ym5]
def lAlt (l:List Alt):T:=.lst 21 (l.map eAlt)
theorem zsr {n:Nat} (l:List Alt):(lAlt l).ids n=true:=zb9 (fun x=>zst x) l
theorem z2g {n:Nat} (l:List Alt):kb n (l.map eAlt)=true:=zb9 (fun x=>zst x) l
theorem z2d {n:Nat} (l:List Alt):kb n (vecC eAlt l)=true:=zkb (fun x=>yd0 x) l
def za5 (l:List (List Alt)):T:=.lst 1 (l.map lAlt)
theorem zp1 {n:Nat} (l:List (List Alt)):(za5 l).ids n=true:=zb9 (fun x=>zsr x) l
theorem zxv {n:Nat} (l:List (List Alt)):kb n (l.map lAlt)=true:=zb9 (fun x=>zsr x) l
theorem z3f (x:List Alt):(lAlt x).cells=[lAlt x]:=f5 rfl rfl
theorem z1u (x:List Alt):m9 (lAlt x)=true:=f5 rfl rfl
structure Rule where
  prio:Int
  mat:Pat
  step:Int
  outs:List (List Alt)
deriving Inhabited,DecidableEq
def zaj (x:Rule):T:=.agg (fg .i64 x.prio :: (x.mat.mask.l.map (fg .i64)++(x.mat.bits.l.map (fg .i64)++[fg .i64 x.step,za5 x.outs])))
theorem z9t {n:Nat} (x:Rule):kb n (zaj x).cells=true:=by simp only [zaj,jc,qp,kb,zax,zgm,zp1,gb]
theorem zp3 {n:Nat} (x:Rule):(zaj x).ids n=true:=by simp only [zaj,qp,kb,zax,zgm,zp1,gb]
theorem zau (x:Rule):(zaj x).cells.length=23:=by simp only [zaj,jc,gg,jd,zui,fq,Ar.len]
theorem zis (x:Rule):(zaj x).cells.all m9=true:=by simp only [zaj,jc,jm,List.all_nil,z0g,zq9,zso,zpt,zsm,zsn,gb,za5.eq_1]
structure Node where
  name:ByteArray
  box:Bool
  rules:Int
  entries:Int
deriving Inhabited,DecidableEq
def zqg (x:Node):T:=.agg ([T.str x.name,T.bool x.box,fg .i64 x.rules,fg .i64 x.entries])
theorem z9u {n:Nat} (x:Node):kb n (zqg x).cells=true:=by simp only [zqg,jc,qp,kb,zax,zgm,gb]
theorem zp4 {n:Nat} (x:Node):(zqg x).ids n=true:=by simp only [zqg,qp,kb,zax,zgm,gb]
structure Link where
  frm:Int
  to:Int
  cap:Int
deriving Inhabited,DecidableEq
def zqh (x:Link):T:=.agg ([fg .i64 x.frm,fg .i64 x.to,fg .i64 x.cap])
theorem z9w {n:Nat} (x:Link):kb n (zqh x).cells=true:=by simp only [zqh,jc,qp,kb,zax,zgm,gb]
theorem zp6 {n:Nat} (x:Link):(zqh x).ids n=true:=by simp only [zqh,qp,kb,zax,zgm,gb]
structure Edge where
  name:ByteArray
  node:Int
deriving Inhabited,DecidableEq
def zqi (x:Edge):T:=.agg ([T.str x.name,fg .i64 x.node])
theorem z9x {n:Nat} (x:Edge):kb n (zqi x).cells=true:=by simp only [zqi,jc,qp,kb,zax,zgm,gb]
theorem zp7 {n:Nat} (x:Edge):(zqi x).ids n=true:=by simp only [zqi,qp,kb,zax,zgm,gb]
def zf0 (l:List Node):T:=.lst 4 (l.map zqg)
theorem zuo {n:Nat} (l:List Node):(zf0 l).ids n=true:=zb9 (fun x=>zp4 x) l
theorem zxr {n:Nat} (l:List Node):kb n (l.map zqg)=true:=zb9 (fun x=>zp4 x) l
theorem zxm {n:Nat} (l:List Node):kb n (vecC zqg l)=true:=zkb (fun x=>z9u x) l
def zf1 (l:List Link):T:=.lst 3 (l.map zqh)
theorem zup {n:Nat} (l:List Link):(zf1 l).ids n=true:=zb9 (fun x=>zp6 x) l
theorem zxt {n:Nat} (l:List Link):kb n (l.map zqh)=true:=zb9 (fun x=>zp6 x) l
theorem zxo {n:Nat} (l:List Link):kb n (vecC zqh l)=true:=zkb (fun x=>z9w x) l
def zf2 (l:List Edge):T:=.lst 2 (l.map zqi)
theorem zuq {n:Nat} (l:List Edge):(zf2 l).ids n=true:=zb9 (fun x=>zp7 x) l
theorem zxw {n:Nat} (l:List Edge):kb n (l.map zqi)=true:=zb9 (fun x=>zp7 x) l
theorem zxp {n:Nat} (l:List Edge):kb n (vecC zqi l)=true:=zkb (fun x=>z9x x) l
structure Net where
  nodes:List Node
  links:List Link
  edges:List Edge
deriving Inhabited,DecidableEq
def eNet (x:Net):T:=.agg ([zf0 x.nodes,zf1 x.links,zf2 x.edges])
theorem z7h {n:Nat} (x:Net):(eNet x).ids n=true:=by simp only [eNet,qp,kb,zax,zgm,zuo,zup,zuq,gb]
def zad (l:List Rule):T:=.lst 23 (l.map zaj)
theorem zun {n:Nat} (l:List Rule):(zad l).ids n=true:=zb9 (fun x=>zp3 x) l
theorem zxq {n:Nat} (l:List Rule):kb n (l.map zaj)=true:=zb9 (fun x=>zp3 x) l
theorem zxl {n:Nat} (l:List Rule):kb n (vecC zaj l)=true:=zkb (fun x=>z9t x) l
def zlj (l:List Merg):T:=.lst 3 (l.map ziz)
theorem z2i {n:Nat} (l:List Merg):(zlj l).ids n=true:=zb9 (fun x=>zp5 x) l
theorem zxs {n:Nat} (l:List Merg):kb n (l.map ziz)=true:=zb9 (fun x=>zp5 x) l
theorem zxn {n:Nat} (l:List Merg):kb n (vecC ziz l)=true:=zkb (fun x=>z9v x) l
def lPat (l:List Pat):T:=.lst 20 (l.map ePat)
theorem z7g {n:Nat} (l:List Pat):(lPat l).ids n=true:=zb9 (fun x=>zss x) l
theorem z2f {n:Nat} (l:List Pat):kb n (l.map ePat)=true:=zb9 (fun x=>zss x) l
theorem z2c {n:Nat} (l:List Pat):kb n (vecC ePat l)=true:=zkb (fun x=>ydz x) l
theorem aq30 (ax:Axs) (a b:Merg):(∀ (S:TS) (x y:f6),tBin Try.prog (EE ax) S 30 .eql x y (.agg ([fg .i64 a.kind,fg .i64 a.i,fg .i64 a.k])) (.agg ([fg .i64 b.kind,fg .i64 b.i,fg .i64 b.k]))=some (.bool (decide (a=b))))/\(∀ (S:TS) (x y:f6),tBin Try.prog (EE ax) S 30 .neq x y (.agg ([fg .i64 a.kind,fg .i64 a.i,fg .i64 a.k])) (.agg ([fg .i64 b.kind,fg .i64 b.i,fg .i64 b.k]))=some (.bool (!(decide (a=b))))):=⟨fun _ _ _=>(zqt (sh:=z36) (by kernel_rfl) (by kernel_rfl) (zza a) (zza b) (zz1 a) (zz1 b) (yeh a b)).1,fun _ _ _=>(zqt (sh:=z36) (by kernel_rfl) (by kernel_rfl) (zza a) (zza b) (zz1 a) (zz1 b) (yeh a b)).2⟩
theorem aq56 (ax:Axs) (a b:Pat):(∀ (S:TS) (x y:f6),tBin Try.prog (EE ax) S 56 .eql x y (.agg (a.mask.l.map (fg .i64)++(a.bits.l.map (fg .i64)))) (.agg (b.mask.l.map (fg .i64)++(b.bits.l.map (fg .i64))))=some (.bool (decide (a=b))))/\(∀ (S:TS) (x y:f6),tBin Try.prog (EE ax) S 56 .neq x y (.agg (a.mask.l.map (fg .i64)++(a.bits.l.map (fg .i64)))) (.agg (b.mask.l.map (fg .i64)++(b.bits.l.map (fg .i64))))=some (.bool (!(decide (a=b))))):=⟨fun _ _ _=>(zqt (sh:=ybk) (by kernel_rfl) (by kernel_rfl) (z52 a) (z52 b) (z7x a) (z7x b) (ykl a b)).1,fun _ _ _=>(zqt (sh:=ybk) (by kernel_rfl) (by kernel_rfl) (z52 a) (z52 b) (z7x a) (z7x b) (ykl a b)).2⟩
theorem aq86 (ax:Axs) (a b:Alt):(∀ (S:TS) (x y:f6),tBin Try.prog (EE ax) S 86 .eql x y (.agg (fg .i64 a.link :: (a.mod.mask.l.map (fg .i64)++(a.mod.bits.l.map (fg .i64))))) (.agg (fg .i64 b.link :: (b.mod.mask.l.map (fg .i64)++(b.mod.bits.l.map (fg .i64)))))=some (.bool (decide (a=b))))/\(∀ (S:TS) (x y:f6),tBin Try.prog (EE ax) S 86 .neq x y (.agg (fg .i64 a.link :: (a.mod.mask.l.map (fg .i64)++(a.mod.bits.l.map (fg .i64))))) (.agg (fg .i64 b.link :: (b.mod.mask.l.map (fg .i64)++(b.mod.bits.l.map (fg .i64)))))=some (.bool (!(decide (a=b))))):=⟨fun _ _ _=>(zqt (sh:=ybl) (by kernel_rfl) (by kernel_rfl) (z53 a) (z53 b) (z7y a) (z7y b) (ykm a b)).1,fun _ _ _=>(zqt (sh:=ybl) (by kernel_rfl) (by kernel_rfl) (z53 a) (z53 b) (z7y a) (z7y b) (ykm a b)).2⟩
theorem eqA:type_of% (fc (fc (fc (fc (@ints.eq_1) (fc (@z4y.eq_1) (@z3g))) (fc (@z1v) (fc (@strs.eq_1) (@ziz.eq_1)))) (fc (fc (@ePat.eq_1) (fc (@eAlt.eq_1) (@lAlt.eq_1))) (fc (@za5.eq_1) (fc (@z3f) (@z1u))))) (fc (fc (fc (@zaj.eq_1) (fc (@zqg.eq_1) (@zqh.eq_1))) (fc (@zqi.eq_1) (fc (@zf0.eq_1) (@zf1.eq_1)))) (fc (fc (@zf2.eq_1) (fc (@eNet.eq_1) (@zad.eq_1))) (fc (@zlj.eq_1) (fc (@lPat.eq_1) (@yh2)))))):=fc (fc (fc (fc (@ints.eq_1) (fc (@z4y.eq_1) (@z3g))) (fc (@z1v) (fc (@strs.eq_1) (@ziz.eq_1)))) (fc (fc (@ePat.eq_1) (fc (@eAlt.eq_1) (@lAlt.eq_1))) (fc (@za5.eq_1) (fc (@z3f) (@z1u))))) (fc (fc (fc (@zaj.eq_1) (fc (@zqg.eq_1) (@zqh.eq_1))) (fc (@zqi.eq_1) (fc (@zf0.eq_1) (@zf1.eq_1)))) (fc (fc (@zf2.eq_1) (fc (@eNet.eq_1) (@zad.eq_1))) (fc (@zlj.eq_1) (fc (@lPat.eq_1) (@yh2)))))
theorem eqB:type_of% (fc (fc (@z5q) (fc (@yaj) (@zyn))) (fc (fc (@yh1) (@z5p)) (fc (@yh0) (@z5o)))):=fc (fc (@z5q) (fc (@yaj) (@zyn))) (fc (fc (@yh1) (@z5p)) (fc (@yh0) (@z5o)))
theorem eqsA:type_of% (fc (fc (fc (fc (@z37) (fc (@sgT) (@sgT1))) (fc (@sgD) (fc (@sgD1) (@sgG)))) (fc (fc (@splA) (fc (@ynm) (@ynl))) (fc (@splS) (fc (@yfd) (@z3p))))) (fc (fc (fc (@zui) (fc (@z0g) (@z0q))) (fc (@z20) (fc (@yi7) (@yoa)))) (fc (fc (@yi6) (fc (@ydr) (@yel))) (fc (@ym6) (fc (@Ar.len) (@zq9)))))):=fc (fc (fc (fc (@z37) (fc (@sgT) (@sgT1))) (fc (@sgD) (fc (@sgD1) (@sgG)))) (fc (fc (@splA) (fc (@ynm) (@ynl))) (fc (@splS) (fc (@yfd) (@z3p))))) (fc (fc (fc (@zui) (fc (@z0g) (@z0q))) (fc (@z20) (fc (@yi7) (@yoa)))) (fc (fc (@yi6) (fc (@ydr) (@yel))) (fc (@ym6) (fc (@Ar.len) (@zq9)))))
theorem eqsB:type_of% (fc (fc (fc (@z3j) (@z0h)) (fc (@ykx) (@sub0))) (fc (fc (@z5x) (@z0b)) (fc (@yax) (fc (@yky) (@yfh))))):=fc (fc (fc (@z3j) (@z0h)) (fc (@ykx) (@sub0))) (fc (fc (@z5x) (@z0b)) (fc (@yax) (fc (@yky) (@yfh))))
theorem idsA:type_of% (fc (fc (fc (fc (@zp2) (fc (@z2h) (@z2j))) (fc (@zxu) (fc (@z7e) (@z2e)))) (fc (fc (@zp5) (fc (@zss) (@zst))) (fc (@zsr) (fc (@z2g) (@z2d))))) (fc (fc (fc (@zp1) (fc (@zxv) (@zp3))) (fc (@zp4) (fc (@zp6) (@zp7)))) (fc (fc (@zuo) (fc (@zxr) (@zxm))) (fc (@zup) (fc (@zxt) (@zxo)))))):=fc (fc (fc (fc (@zp2) (fc (@z2h) (@z2j))) (fc (@zxu) (fc (@z7e) (@z2e)))) (fc (fc (@zp5) (fc (@zss) (@zst))) (fc (@zsr) (fc (@z2g) (@z2d))))) (fc (fc (fc (@zp1) (fc (@zxv) (@zp3))) (fc (@zp4) (fc (@zp6) (@zp7)))) (fc (fc (@zuo) (fc (@zxr) (@zxm))) (fc (@zup) (fc (@zxt) (@zxo)))))
theorem idsB:type_of% (fc (fc (fc (fc (@zuq) (@zxw)) (fc (@zxp) (@z7h))) (fc (fc (@zun) (@zxq)) (fc (@zxl) (@z2i)))) (fc (fc (fc (@zxs) (@zxn)) (fc (@z7g) (@z2f))) (fc (fc (@z2c) (@yja)) (fc (@zgm) (fc (@yd1) (@zax)))))):=fc (fc (fc (fc (@zuq) (@zxw)) (fc (@zxp) (@z7h))) (fc (fc (@zun) (@zxq)) (fc (@zxl) (@z2i)))) (fc (fc (fc (@zxs) (@zxn)) (fc (@z7g) (@z2f))) (fc (fc (@z2c) (@yja)) (fc (@zgm) (fc (@yd1) (@zax)))))
structure ym1 (ax:Axs):Prop where
  no:∀ f,fx f 9=false->ax f=none
  san:Pure Try.prog (EE ax) [] 9 [] (.bool true)
theorem Pure.clr {P:gn} {Γ:Env} {GL:List (Nat×List Value)} {f:FuncId} {args:List T} {v v2:T} {S:TS} (k:Pure P Γ GL f args v) (e:v=v2):zal P Γ GL f args S v2:=e ▸ k.call S
mutual
inductive Rt (W:World):T->Value->Prop
  |int (k n):Rt W (.int k n) (.int k n)
  |bool (b):Rt W (.bool b) (.bool b)
  |str (b):Rt W (.str b) (.string b)
  |agg {l cs}:RtL W l cs->Rt W (.agg l) (.agg ⟨cs⟩)
  |nil {e}:Rt W (.lst e []) (.slice none 0 0)
  |zero {e a}:0<e->0<W.heap.size->Rt W (.lst e []) (.slice (some a) 0 0)
  |lst {e l b off cap cs}:RtL W (l.flatMap jc) cs->(∀ t,t∈l->t.cells.length=e)->0<e->l.length<=cap->cap<=maxLen->(W.cell? ⟨b,off,none⟩).isSome=true->(∀ (j:Nat) u,cs[j]?=some u->W.cell? ⟨b,off+j,none⟩=some u)->Rt W (.lst e l) (.slice (some ⟨b,off,none⟩) l.length cap)
inductive RtL (W:World):List T->List Value->Prop
  |nil:RtL W [] []
  |cons {t v l vs}:Rt W t v->RtL W l vs->RtL W (t :: l) (v :: vs)
end
section
variable {W:World} {N:Nat} {G:List Nat} {K:List (Nat×List Value)}
theorem RtL.len:∀ {l:List T} {vs:List Value},RtL W l vs->l.length=vs.length
  |_,_,.nil=>rfl
  |_,_,.cons _ h=>by rw [gg,gg,h.len]
theorem z5g {b j k:Nat} (h:(W.cell? ⟨b,k,none⟩).isSome=true) (hj:j<=k):(W.cell? ⟨b,j,none⟩).isSome=true:=by
  unfold rp at h ⊢;simp only at h ⊢;split at h
  . rename_i c _ _ hb;simp only [Option.isSome_none,Bool.false_eq_true,if_false] at h ⊢
    have:k<c.size:=by
      by_cases hk:k<c.size
      . exact hk
      . rw [Array.getElem?_eq_none (by omega)] at h;simp at h
    rw [kv (by omega)];rfl
  . simp at h
theorem yhh {b k:Nat} (h:(W.cell? ⟨b,k,none⟩).isSome=true):b<W.heap.size:=by
  unfold rp at h;simp only at h;by_cases hb:b<W.heap.size
  . exact hb
  . rw [Array.getElem?_eq_none (by omega)] at h;simp at h
theorem ztx {u:Nat} {m:List (Nat×List Value)}:∀ {l:List (Nat×List Value)},(∀ p,p∈l->p.1≠u)->zbq (l++m) u=zbq m u
  |[],_=>rfl
  |p :: l,h=>by
    show (bif fx p.1 u then some p.2 else zbq (l++m) u)=_;rw [zi2 (h p (by simp)),cond_false];exact ztx fun q hq=>h q (by simp [hq])
theorem ztn {f:Nat} {q:Seg}:∀ {F:List Seg} {i j:Nat},F[i]?=some q->q.b=f->zbq (zkk N f j F) ((N+(j+i))*1024)=some q.cs
  |[],i,j,h,_=>by simp at h
  |p :: F,0,j,h,hb=>by
    simp only [gw,fd] at h;subst h;unfold zkk;rw [zAc hb]
    simp [zbq,Nat.beq_refl]
  |p :: F,i+1,j,h,hb=>by
    have ih:=ztn (F:=F) (i:=i) (j:=j+1) (by simpa using h) hb;rw [show j+1+i=j+(i+1) by omega] at ih;unfold zkk;split
    . unfold zbq
      have:fx ((N+j)*1024) ((N+(j+(i+1)))*1024)=false:=by
        cases hq:fx ((N+j)*1024) ((N+(j+(i+1)))*1024) with
        |false=>rfl
        |true=>have:=fk hq;omega
      rw [this];exact ih
    . exact ih
def Low (N:Nat):Nat->Prop:=fun f=>f<N
structure En (W:World) (N:Nat) (G:List Nat) (K:List (Nat×List Value)) (pre A:List Seg) (l:List T) (xs vs:List Value):Prop where
  vr:∀ post,RL (VR (sgS N G K (pre++A++post))) xs vs
  vl:∀ post,VL (Low N) bx0 (famS N K (pre++A++post)) l xs
  at_:∀ post q,q∈A->yoz (sgS N G K (pre++A++post)) W q
theorem ynn (hK:∀ p,p∈K->has G p.1=true) (hG:∀ g,has G g=true->g<N) {F:List Seg} {i:Nat} {q:Seg} (hq:F[i]?=some q) (hb:q.b<N) :
    sgS N G K F q.b ((N+i)*1024)=some (q.b,q.o,q.o+q.cs.length)/\zbq (famS N K F q.b).rows ((N+i)*1024)=some q.cs:=by
  constructor
  . unfold sgS;rw [zAd (by rintro ⟨_,h⟩;omega),zAc (by omega)];have e:(N+i)*1024 / 1024 - N=i:=by omega
    rw [e,hq];show (if q.b=q.b then _ else _)=_;rw [zAc rfl]
  . show zbq ((famK K q.b).rows++zkk N q.b 0 F) _=_;rw [ztx fun p hp=>?_]
    . have:=ztn (N:=N) (j:=0) hq rfl
      rwa [i4] at this
    . obtain ⟨h1,h2,_⟩:=zu1 hp;have:=hG _ (hK _ h2);rw [h1];simp only at this;omega
theorem ydx {α:Type} (pre A post:List α) (q:α):(pre++(A++[q])++post)[pre.length+A.length]?=some q:=by
  rw [gi,gi,il (by omega),il (by omega)];simp
mutual
theorem ent (hN:N=W.heap.size) (hK:∀ p,p∈K->has G p.1=true) (hG:∀ g,has G g=true->g<N):∀ {t:T} {v:Value},Rt W t v->∀ pre,∃ A x,En W N G K pre A [t] [x] [v]
  |_,_,.int k n,pre=>⟨[],.int k n,⟨fun _=>⟨zie 3 rfl,trivial⟩,fun _=>.cons (.int k n) .nil,fun _ q hq=>by simp at hq⟩⟩
  |_,_,.bool b,pre=>⟨[],.bool b,⟨fun _=>⟨zie 3 rfl,trivial⟩,fun _=>.cons (.bool b) .nil,fun _ q hq=>by simp at hq⟩⟩
  |_,_,.str b,pre=>⟨[],.string b,⟨fun _=>⟨zie 3 rfl,trivial⟩,fun _=>.cons (.str b) .nil,fun _ q hq=>by simp at hq⟩⟩
  |_,_,.agg h,pre=>by
    obtain ⟨A,xs,k⟩:=entL hN hK hG h pre;exact ⟨A,.agg ⟨xs⟩,fun post=>⟨VR.mk ⟨_,rfl,k.vr post⟩,trivial⟩,fun post=>.cons (.agg (k.vl post)) .nil,k.at_⟩
  |_,_,.nil,pre=>⟨[],.slice none 0 0,⟨fun _=>⟨VR.mk ⟨rfl,rfl,rfl⟩,trivial⟩,fun _=>.cons .lnil .nil,fun _ q hq=>by simp at hq⟩⟩
  |.lst e _,.slice _ _ _,@Rt.zero _ _ a he hs,pre=>by
    have hi:=fun post=>ydx pre [] post (⟨0,0,[]⟩:Seg);have h0:∀ post,_:=fun post=>ynn (q:=(⟨0,0,[]⟩:Seg)) hK hG (hi post) (by show 0<N;omega);refine ⟨[⟨0,0,[]⟩],.slice (some (mkA 0 ((N+(pre.length+0))*1024) 0)) 0 0,⟨fun post=>⟨VR.mk ⟨0,0,_,(h0 post).1,a,0,rfl,fm _,fm _,io _,fun h=>absurd rfl h,fun _=>rfl,fun _ h=>absurd rfl h⟩,trivial⟩,fun post=>.cons ?_ .nil,fun post q hq=>?_⟩⟩
    . exact .lst (l:=[]) (cs:=[]) (show (0:Nat)<N by omega) (h0 post).2 .nil (fun t ht=>by simp at ht) he rfl (.inl (by omega)) (fm _)
    . simp only [gt] at hq;subst hq;exact ⟨hs,fun j hj=>by simp at hj,fun j u hu=>by simp at hu⟩
  |.lst e l,.slice _ _ cap,@Rt.lst _ _ _ b off _ cs h hs he hl hm hc hcell,pre=>by
    obtain ⟨A,xs,k⟩:=entL hN hK hG h pre;have hxl:xs.length=cs.length:=(k.vr []).length;have hb:b<W.heap.size:=yhh hc;have hi:=fun post=>ydx pre A post (⟨b,off,xs⟩:Seg);have h0:=fun post=>ynn (q:=(⟨b,off,xs⟩:Seg)) hK hG (hi post) (by show b<N;omega);have hF:∀ post,pre++(A++[⟨b,off,xs⟩])++post=pre++A++((⟨b,off,xs⟩:Seg) :: post):=fun post=>by simp
    refine ⟨A++[⟨b,off,xs⟩],.slice (some (mkA b ((N+(pre.length+A.length))*1024) 0)) l.length cap,⟨fun post=>⟨VR.mk ⟨b,off,_,(h0 post).1,⟨b,off,none⟩,cap,rfl,hl,fm _,hm,fun _=>rfl,fun _=>rfl,fun ht=>?_⟩,trivial⟩,fun post=>.cons ?_ .nil,fun post q hq=>?_⟩⟩
    . rw [zjo] at ht;omega
    . refine .lst (cs:=xs) (show b<N by omega) (h0 post).2 ?_ hs he (by rw [gl,List.take_length]) (.inl (by omega)) hl;rw [hF];exact k.vl _
    . rcases im.1 hq with hq|hq
      . rw [hF];exact k.at_ _ q hq
      . simp only [gt] at hq;subst hq;refine ⟨hb,fun j hj=>?_,fun j u hu=>?_⟩
        . have hj:j<off+xs.length:=hj;by_cases h1:j<=off
          . exact z5g hc h1
          . have hjc:j - off<cs.length:=by omega
            have:=hcell (j - off) _ (fj hjc);rw [show off+(j - off)=j by omega] at this;rw [this];rfl
        . have hju:j<xs.length:=(gd.1 hu).1;have hu:xs[j]?=some u:=hu;have hcs:=fj (l:=cs) (i:=j) (by omega);refine ⟨_,hcell j _ hcs,?_⟩;rw [hF];obtain ⟨y,hy1,hy2⟩:=(k.vr (⟨b,off,xs⟩ :: post)).at hu;rw [hcs] at hy1;cases hy1;exact hy2
theorem entL (hN:N=W.heap.size) (hK:∀ p,p∈K->has G p.1=true) (hG:∀ g,has G g=true->g<N):∀ {l:List T} {vs:List Value},RtL W l vs->∀ pre,∃ A xs,En W N G K pre A l xs vs
  |_,_,.nil,pre=>⟨[],[],⟨fun _=>trivial,fun _=>.nil,fun _ q hq=>by simp at hq⟩⟩
  |_,_,.cons h1 h2,pre=>by
    obtain ⟨A1,x,k1⟩:=ent hN hK hG h1 pre;obtain ⟨A2,xs,k2⟩:=entL hN hK hG h2 (pre++A1);have e1:∀ post,pre++(A1++A2)++post=pre++A1++(A2++post):=fun post=>by simp
    have e2:∀ post,pre++(A1++A2)++post=pre++A1++A2++post:=fun post=>by simp
    refine ⟨A1++A2,x :: xs,⟨fun post=>⟨?_,?_⟩,fun post=>?_,fun post q hq=>?_⟩⟩
    . rw [e1];exact (k1.vr _).1
    . rw [e2];exact k2.vr _
    . have a:=k1.vl (A2++post);have b:=k2.vl post;rw [<- e1] at a;rw [<- e2] at b
      cases a with
      |cons a _=>exact .cons a b
    . rcases im.1 hq with hq|hq
      . rw [e1];exact k1.at_ _ q hq
      . rw [e2];exact k2.at_ _ q hq
end
end
inductive Sh where
  |int (k:ir)
  |bool
  |str
  |slice (e:Sh)
  |struct (l:List Sh)
  |arr (k:ir) (n:Nat)
mutual
def Sh.sz:Sh->Nat
  |.struct l=>Sh.szL l
  |.arr _ n=>n
  |_=>1
def Sh.szL:List Sh->Nat
  |[]=>0
  |s :: l=>s.sz+Sh.szL l
end
mutual
def shOk (P:gn):Sh->gm->Bool
  |.int k,t=>match P.underlying t with|some (.int k')=>decide (k=k')|_=>false
  |.bool,t=>match P.underlying t with|some .bool=>true|_=>false
  |.str,t=>match P.underlying t with|some .string=>true|_=>false
  |.slice s,t=>match P.underlying t with|some (.slice e)=>fx (P.cellsOf e) s.sz && (Nat.blt 0 s.sz && shOk P s e)|_=>false
  |.struct l,t=>match P.underlying t with|some (.struct fs)=>fx (P.cellsOf t) (Sh.szL l) && z88 P l fs.toList 0|_=>false
  |.arr k n,t=>match P.underlying t with|some (.array m e)=>fx m n && (fx (P.cellsOf t) n && (fx (P.cellsOf e) 1 && (match P.underlying e with|some (.int k')=>decide (k=k')|_=>false)))|_=>false
def z88 (P:gn):List Sh->List Field->Nat->Bool
  |[],[],_=>true
  |s :: l,f :: fs,o=>fx f.offset o && (fx (P.cellsOf f.type) s.sz && (shOk P s f.type && z88 P l fs (o+s.sz)))
  |_,_,_=>false
end
mutual
def conf:Sh->T->Prop
  |.int k,t=>∃ n,t=.int k n/\(Lit.int k n).wf=true
  |.bool,t=>∃ b,t=.bool b
  |.str,t=>∃ s,t=.str s/\s.size<=maxLen
  |.slice e,t=>∃ l,t=.lst e.sz l/\l.length<=maxLen/\∀ x,x∈l->conf e x
  |.struct l,t=>∃ cs,t=.agg cs/\ymi l cs
  |.arr k n,t=>∃ a:Ar n,t=.agg (a.l.map (fg k))/\∀ x,x∈a.l->(Lit.int k x).wf=true
def ymi:List Sh->List T->Prop
  |[],cs=>cs=[]
  |s :: l,cs=>∃ x r,cs=x.cells++r/\conf s x/\ymi l r
end
theorem yez {α:Type} {p:Nat->α->Prop}:∀ n,(∀ i,i<n->∃ x,p i x)->∃ l:List α,l.length=n/\∀ i (hi:i<l.length),p i l[i]:=by
  intro n
  induction n with
  |zero=>intro _;exact ⟨[],rfl,fun i hi=>by simp at hi⟩
  |succ n ih =>
    intro h;obtain ⟨l,hl,hp⟩:=ih (fun i hi=>h i (by omega));obtain ⟨x,hx⟩:=h n (by omega);refine ⟨l++[x],by simp [hl],fun i hi=>?_⟩;by_cases hin:i<l.length
    . rw [List.getElem_append_left hin];exact hp i hin
    . have:i=l.length:=by simp at hi;omega
      subst this;rw [List.getElem_append_right (fm _)];simpa [hl] using hx
section
variable {H:Type} {enc:gm×Value->H} {P:gn} {W:World}
theorem RtL.append:∀ {l l2:List T} {vs vs2:List Value},RtL W l vs->RtL W l2 vs2->RtL W (l++l2) (vs++vs2)
  |_,_,_,_,.nil,k=>k
  |_,_,_,_,.cons h k,k2=>.cons h (k.append k2)
theorem RtL.flat:∀ {l:List (T×List Value)},(∀ p,p∈l->RtL W p.1.cells p.2)->RtL W ((l.map (·.1)).flatMap jc) (l.map (·.2)).flatten
  |[],_=>.nil
  |p :: l,h=>by
    rw [iz,i9,iz,ig];exact (h p (by simp)).append (RtL.flat fun q hq=>h q (by simp [hq]))
theorem zx0 {b k:Nat}:∀ {l:List (List Value)} {o:Nat},(∀ c,c∈l->c.length=k)->(∀ (i:Nat) c,l[i]?=some c->∀ j,j<k->W.cell? ⟨b,o+i*k+j,none⟩=c[j]?)->∀ (j:Nat) u,l.flatten[j]?=some u->W.cell? ⟨b,o+j,none⟩=some u
  |[],o,_,_,j,u,h=>by simp at h
  |c :: l,o,hl,hc,j,u,h=>by
    have hck:=hl c (by simp);rw [ig] at h;by_cases hj:j<c.length
    . rw [gh hj] at h;have:=hc 0 c rfl j (by omega);rw [Nat.zero_mul,jq] at this;rw [this,h]
    . rw [il (by omega)] at h
      have:=zx0 (o:=o+k) (fun c hc=>hl c (by simp [hc])) (fun i c' hi j hj=>by
        have:=hc (i+1) c' (by simpa using hi) j hj;rw [show o+(i+1)*k+j=o+k+i*k+j by rw [jl];omega] at this
        exact this) (j - c.length) u h
      rw [show o+k+(j - c.length)=o+j by omega] at this;exact this
def zvj (W:World) (cs:List Value):Prop:=∀ v,v∈cs->(∃ a n c,v=.slice (some a) n c)->0<W.heap.size
theorem zvj.of (h:0<W.heap.size) (cs:List Value):zvj W cs:=fun _ _ _=>h
theorem zvj.sub {cs cs':List Value} (h:zvj W cs) (hs:∀ v,v∈cs'->v∈cs):zvj W cs':=fun v hv=>h v (hs v hv)
theorem z87 {s:Sh} {e t:gm} {fuel:Nat} {cs:List Value} {x:DataW H×List MemPlace} (ht:P.underlying t=some (.slice e)) (hsz:P.cellsOf e=s.sz) (hpos:0<s.sz)
    (ih:∀ {fuel:Nat} {cs:List Value} {x:DataW H×List MemPlace},DataW.trod enc P W 0 (fun _=>true) true fuel e cs=some x->zvj W cs->∃ tr,conf s tr/\RtL W tr.cells cs)
    (h:DataW.trod enc P W 0 (fun _=>true) true fuel t cs=some x) (hz:zvj W cs):∃ tr,conf (.slice s) tr/\RtL W tr.cells cs:=by
  rcases Go.Deep.open_slice ht h with ⟨rfl,_⟩|⟨a,len,cap,m,n,D,Pl,rfl,hb,hl,hm,hmm,_,hall⟩
  . exact ⟨.lst s.sz [],⟨[],rfl,io _,fun x hx=>by simp at hx⟩,.cons .nil .nil⟩
  . have hh:0<W.heap.size:=hz (.slice (some a) len cap) (by simp) ⟨_,_,_,rfl⟩;simp only [if_true] at hmm;subst hmm;rw [hsz] at hall;by_cases h0:m=0
    . subst h0;have:len=0:=by omega
      subst this;exact ⟨.lst s.sz [],⟨[],rfl,io _,fun x hx=>by simp at hx⟩,.cons (.zero hpos hh) .nil⟩
    obtain ⟨cs0,hc0,_⟩:=hall 0 (by omega);obtain ⟨_,hl0,hcc0⟩:=World.cells?_some hc0
    have hcell0:((W.cell? ((a.add (0*s.sz)).add 0))).isSome=true:=by
      rw [hcc0 0 hpos,fj (by omega)];rfl
    obtain ⟨b,off,spot⟩:=a
    have hspot:spot=none:=by
      cases hq:W.cell? (((⟨b,off,spot⟩:Addr).add (0*s.sz)).add 0) with
      |none=>rw [hq] at hcell0;simp at hcell0
      |some u=>simpa [Addr.add] using World.cell?_spot hq
    subst hspot;simp only [nq,Nat.zero_mul,jq] at hcell0
    obtain ⟨l,hll,hp⟩:=yez (p:=fun i (p:T×List Value)=>conf s p.1/\RtL W p.1.cells p.2/\p.2.length=s.sz/\∀ j,j<s.sz->W.cell? ⟨b,off+i*s.sz+j,none⟩=p.2[j]?) len (fun i hi=>by
      obtain ⟨cs',h1,h2⟩:=hall i (by omega);obtain ⟨tr,k1,k2⟩:=ih h2 (zvj.of hh _);obtain ⟨-,hcl,hcc⟩:=World.cells?_some h1
      exact ⟨(tr,cs'),k1,k2,hcl,fun j hj=>by have:=hcc j hj;rw [nq,nq] at this;exact this⟩)
    have hmem:∀ p,p∈l->∃ i,i<l.length/\l[i]?=some p/\conf s p.1/\RtL W p.1.cells p.2/\p.2.length=s.sz:=fun p hp'=>by
      obtain ⟨i,hi,rfl⟩:=mo hp';exact ⟨i,hi,fj hi,(hp i hi).1,(hp i hi).2.1,(hp i hi).2.2.1⟩
    refine ⟨.lst s.sz (l.map (·.1)),⟨_,rfl,by rw [fq];omega,fun x hx=>?_⟩,.cons ?_ .nil⟩
    . obtain ⟨p,hp1,rfl⟩:=jn.1 hx;obtain ⟨_,_,_,k,_⟩:=hmem p hp1;exact k
    . have:=Rt.lst (W:=W) (e:=s.sz) (l:=l.map (·.1)) (b:=b) (off:=off) (cap:=m) (cs:=(l.map (·.2)).flatten) (RtL.flat fun p hp1=>by obtain ⟨_,_,_,_,k,_⟩:=hmem p hp1;exact k) (fun t ht'=>?_) hpos (by rw [fq];omega) hm hcell0 ?_
      . rw [fq,hll] at this;exact this
      . obtain ⟨p,hp1,rfl⟩:=jn.1 ht';obtain ⟨_,_,_,_,k,k2⟩:=hmem p hp1;rw [k.len,k2]
      . refine zx0 (k:=s.sz) (fun c hc=>?_) (fun i c hi=>?_)
        . obtain ⟨p,hp1,rfl⟩:=jn.1 hc;obtain ⟨_,_,_,_,_,k2⟩:=hmem p hp1;exact k2
        . rw [li] at hi
          cases hq:l[i]? with
          |none=>rw [hq] at hi;simp at hi
          |some p =>
            rw [hq] at hi;simp only [Option.map_some,fd] at hi;subst hi;have hil:=(gd.1 hq).1;have:l[i]=p:=(gd.1 hq).2;have:=(hp i hil).2.2.2;rw [‹l[i]=p›] at this;exact this
theorem z81 {W:World} {k:ir}:∀ (l:List Int),RtL W (l.map (fg k)) (l.map (jg k))
  |[]=>.nil
  |x :: l=>.cons (.int _ _) (z81 l)
theorem beqN {a b:Nat} (h:fx a b=true):a=b:=fk h
mutual
theorem zt7:∀ {s:Sh} {t:gm} {fuel:Nat} {cs:List Value} {x:DataW H×List MemPlace},shOk P s t=true->DataW.trod enc P W 0 (fun _=>true) true fuel t cs=some x->zvj W cs->∃ tr,conf s tr/\RtL W tr.cells cs
  |.int k,t,fuel,cs,x,hs,h,hz=>by
    unfold shOk at hs;split at hs
    . rename_i k' hu;have:k=k':=zAe hs;subst this;obtain ⟨n,rfl,-,hw⟩:=DataW.trod_int hu h;exact ⟨.int k n,⟨n,rfl,hw⟩,.cons (.int k n) .nil⟩
    . simp at hs
  |.bool,t,fuel,cs,x,hs,h,hz=>by
    unfold shOk at hs;split at hs
    . rename_i hu;obtain ⟨b,rfl,-⟩:=DataW.trod_bool hu h;exact ⟨.bool b,⟨b,rfl⟩,.cons (.bool b) .nil⟩
    . simp at hs
  |.str,t,fuel,cs,x,hs,h,hz=>by
    unfold shOk at hs;split at hs
    . rename_i hu;obtain ⟨b,rfl,-,hb⟩:=DataW.trod_string hu h;exact ⟨.str b,⟨b,rfl,hb⟩,.cons (.str b) .nil⟩
    . simp at hs
  |.slice s,t,fuel,cs,x,hs,h,hz=>by
    unfold shOk at hs;split at hs
    . rename_i e hu;simp only [fi] at hs;exact z87 hu (beqN hs.1) (zae.1 hs.2.1) (fun h hz=>zt7 hs.2.2 h hz) h hz
    . simp at hs
  |.struct l,t,fuel,cs,x,hs,h,hz=>by
    unfold shOk at hs;split at hs
    . rename_i fs hu;simp only [fi] at hs;obtain ⟨xs,n,-,-,hl,hxl,hall⟩:=DataW.trod_struct hu h
      obtain ⟨ts,k1,k2⟩:=z6u (fs:=fs.toList) (o:=0) (pre:=cs) (fuel:=n) hs.2 (fun f hf=>by
        obtain ⟨i,hi,rfl⟩:=mo hf;have hi':i<fs.size:=by simpa using hi
        have:=hall i fs[i] (kv hi');rw [fj (by omega)] at this
        exact ⟨_,by rw [Array.getElem_toList];exact this⟩) (by rw [hl,beqN hs.1];omega) hz
      rw [gl] at k2;have hlen:cs.take (Sh.szL l)=cs:=ii (by rw [hl,beqN hs.1];exact fm _);rw [hlen] at k2;exact ⟨.agg ts,⟨ts,rfl,k1⟩,k2⟩
    . simp at hs
  |.arr k n,t,fuel,cs,x,hs,h,hz=>by
    unfold shOk at hs;split at hs
    . rename_i m e hu;simp only [fi] at hs;obtain ⟨h1,h2,h3,h4⟩:=hs;split at h4
      . rename_i k' he;have hkk:k=k':=zAe h4;subst hkk;have hmn:=beqN h1;subst hmn;obtain ⟨xs,fu,rfl,hx1,hlen,hxl,hel⟩:=DataW.trod_array hu h;have hl:cs.length=m:=by rw [hlen];exact beqN h2
        have key:∀ i,i<m->∃ z,cs[i]?=some (.int k z)/\(Lit.int k z).wf=true:=by
          intro i hi;have h0:=hel i hi;rw [beqN h3,qg,fj (by omega)] at h0;obtain ⟨z,e1,e2,e3⟩:=DataW.trod_int he h0;refine ⟨z,?_,e3⟩;have:(cs.drop i)[0]?=((cs.drop i).take 1)[0]?:=by rw [List.getElem?_take_of_lt (by omega)]
          have e1':(cs.drop i).take 1=[.int k z]:=e1;rw [e1'] at this;simpa using this
        obtain ⟨l,hl2,hp⟩:=yez (p:=fun i (z:Int)=>cs[i]?=some (.int k z)/\(Lit.int k z).wf=true) m key
        have hcl:cs=l.map (jg k):=by
          apply List.ext_getElem (by rw [hl,fq,hl2]);intro i h1 h2;have:=(hp i (by rw [hl2,<- hl];exact h1)).1;rw [fj h1] at this;rw [List.getElem_map];exact Option.some.inj this
        refine ⟨.agg (l.map (fg k)),⟨⟨l,hl2⟩,rfl,fun x hx=>?_⟩,?_⟩
        . obtain ⟨i,hi,rfl⟩:=mo hx;exact (hp i hi).2
        . rw [hcl];exact z81 l
      . simp at h4
    . simp at hs
theorem z6u:∀ {l:List Sh} {fs:List Field} {o fuel:Nat} {pre:List Value},z88 P l fs o=true->(∀ f,f∈fs->∃ x,DataW.trod enc P W 0 (fun _=>true) true fuel f.type ((pre.drop f.offset).take (P.cellsOf f.type))=some x)->o+Sh.szL l<=pre.length->zvj W pre->∃ ts,ymi l ts/\RtL W ts ((pre.drop o).take (Sh.szL l))
  |[],[],o,fuel,pre,hs,h,hl,hz=>⟨[],rfl,by unfold Sh.szL;rw [m6];exact .nil⟩
  |[],_ :: _,o,fuel,pre,hs,h,hl,hz=>by simp [z88] at hs
  |_ :: _,[],o,fuel,pre,hs,h,hl,hz=>by simp [z88] at hs
  |s :: l,f :: fs,o,fuel,pre,hs,h,hl,hz=>by
    unfold z88 at hs;unfold Sh.szL at hl ⊢;simp only [fi] at hs;obtain ⟨x,hx⟩:=h f (by simp);rw [beqN hs.1,beqN hs.2.1] at hx;obtain ⟨tr,k1,k2⟩:=zt7 hs.2.2.1 hx (hz.sub fun v hv=>List.mem_of_mem_drop (List.mem_of_mem_take hv));obtain ⟨ts,k3,k4⟩:=z6u (o:=o+s.sz) (pre:=pre) (fuel:=fuel) hs.2.2.2 (fun g hg=>h g (by simp [hg])) (by omega) hz;refine ⟨tr.cells++ts,⟨tr,ts,rfl,k1,k3⟩,?_⟩;have:=k2.append k4;rw [show List.take s.sz (List.drop o pre)++List.take (Sh.szL l) (List.drop (o+s.sz) pre)=List.take (s.sz+Sh.szL l) (List.drop o pre) by rw [List.take_add,ln]] at this;exact this
end
theorem zr2 {r:Reach} {base:Nat} {u:gm} {a:Addr} {n c:Nat} (h:Cell.okWide P W r base u (.slice (some a) n c)):0<W.heap.size:=by
  have key:Cell.ok P W r base u (.slice (some a) n c)->0<W.heap.size:=fun h=>by
    unfold Cell.ok at h;split at h<;>first|contradiction | (exact h.elim)|skip
    rename_i hq;cases hq;obtain ⟨-,-,-,-,row,cells,hs,-⟩:=h;unfold World.shape? at hs;by_cases hb:0<W.heap.size
    . exact hb
    . rw [Array.getElem?_eq_none (by omega)] at hs;simp at hs
  unfold Cell.okWide at h;split at h<;>first|exact key h|contradiction
theorem z97 {r:Reach} {base:Nat} {u:gm} {cs:Array Value} (h:Cell.okWide P W r base u (.agg cs)):False:=by
  unfold Cell.okWide at h;split at h<;>first|contradiction | (unfold Cell.ok at h;split at h<;>first|contradiction|exact h)
theorem zsl {r:Reach} {base:Nat} {s:Sh} {t:gm} {v:Value} {d:DataW H} {ps:List MemPlace} (hs:shOk P s t=true) (hv:rc P W r base t v) (h:DataW.Trod enc P W 0 (fun _=>true) true t v d ps):∃ tr,conf s tr/\Rt W tr v:=by
  obtain ⟨fuel,h⟩:=h
  have one:(∀ fs,P.underlying t≠some (.struct fs))->(∀ n e,P.underlying t≠some (.array n e))->(∀ l,s≠.struct l)->(∀ k n,s≠.arr k n)->∃ tr,conf s tr/\Rt W tr v:=fun h1 h2 h3 h4=>by
    have hc:Cell.okWide P W r base t v:=by
      unfold rc at hv;split at hv
      . rename_i fs hu;exact absurd hu (h1 fs)
      . rename_i n e hu;exact absurd hu (h2 n e)
      . exact hv
    have hcs:v.cells.toList=[v]:=by
      cases v<;>first|rfl|exact (z97 hc).elim
    rw [hcs] at h
    obtain ⟨tr,k1,k2⟩:=zt7 hs h (fun x hx ⟨a,n,c,he⟩=>by
      simp only [gt] at hx;subst hx;subst he
      exact zr2 hc)
    have ht:tr.cells=[tr]:=by
      cases s with
      |struct l=>exact absurd rfl (h3 l)
      |int k=>obtain ⟨n,rfl,_⟩:=k1;rfl
      |bool=>obtain ⟨n,rfl⟩:=k1;rfl
      |str=>obtain ⟨n,rfl,_⟩:=k1;rfl
      |slice e=>obtain ⟨l,rfl,_⟩:=k1;rfl
      |arr k n=>exact absurd rfl (h4 k n)
    rw [ht] at k2
    cases k2 with
    |cons a _=>exact ⟨tr,k1,a⟩
  cases s with
  |struct l =>
    have hu:∃ fs,P.underlying t=some (.struct fs):=by
      unfold shOk at hs;split at hs
      . rename_i fs hu;exact ⟨fs,hu⟩
      . simp at hs
    obtain ⟨fs,hu⟩:=hu;unfold rc at hv;rw [hu] at hv;obtain ⟨cs,rfl,-,ts,-,-,hall⟩:=hv
    obtain ⟨tr,k1,k2⟩:=zt7 hs h (fun x hx ⟨a,n,c,he⟩=>by
      subst he;obtain ⟨i,hi,hq⟩:=mo hx;have hi':i<cs.size:=by simpa [Value.cells] using hi
      obtain ⟨u,-,hu2⟩:=hall i _ (kv hi');have:cs[i]=.slice (some a) n c:=by simpa [Value.cells] using hq
      rw [this] at hu2
      exact zr2 hu2)
    obtain ⟨ts,rfl,_⟩:=id k1;exact ⟨_,k1,.agg (by simpa [jc,Value.cells] using k2)⟩
  |int k =>
    have:∃ k',P.underlying t=some (.int k'):=by
      unfold shOk at hs;split at hs
      . rename_i k' hu;exact ⟨k',hu⟩
      . simp at hs
    obtain ⟨k',hu⟩:=this;exact one (fun fs hh=>by rw [hu] at hh;simp at hh) (fun n e hh=>by rw [hu] at hh;simp at hh) (fun l hh=>by simp at hh) (fun k n hh=>by simp at hh)
  |bool =>
    have:P.underlying t=some .bool:=by
      unfold shOk at hs;split at hs
      . rename_i hu;exact hu
      . simp at hs
    exact one (fun fs hh=>by rw [this] at hh;simp at hh) (fun n e hh=>by rw [this] at hh;simp at hh) (fun l hh=>by simp at hh) (fun k n hh=>by simp at hh)
  |str =>
    have:P.underlying t=some .string:=by
      unfold shOk at hs;split at hs
      . rename_i hu;exact hu
      . simp at hs
    exact one (fun fs hh=>by rw [this] at hh;simp at hh) (fun n e hh=>by rw [this] at hh;simp at hh) (fun l hh=>by simp at hh) (fun k n hh=>by simp at hh)
  |slice e =>
    have:∃ e,P.underlying t=some (.slice e):=by
      unfold shOk at hs;split at hs
      . rename_i e hu;exact ⟨e,hu⟩
      . simp at hs
    obtain ⟨e',hu⟩:=this;exact one (fun fs hh=>by rw [hu] at hh;simp at hh) (fun n e hh=>by rw [hu] at hh;simp at hh) (fun l hh=>by simp at hh) (fun k n hh=>by simp at hh)
  |arr k n =>
    have hu:∃ m e,P.underlying t=some (.array m e):=by
      unfold shOk at hs;split at hs
      . rename_i m e hu;exact ⟨m,e,hu⟩
      . simp at hs
    obtain ⟨m,e,hu⟩:=hu;unfold rc at hv;rw [hu] at hv;obtain ⟨cs,rfl,-⟩:=hv;have hnoslice:∀ tr:T,conf (.arr k n) tr->True:=fun _ _=>trivial;have hs0:=hs;unfold shOk at hs0;rw [hu] at hs0;simp only [fi] at hs0;obtain ⟨q1,q2,q3,q4⟩:=hs0;split at q4
    . rename_i k' he;obtain ⟨xs,fu,-,-,hlen,hxlen,hel⟩:=DataW.trod_array hu h
      have hz:zvj W (Value.agg cs).cells.toList:=fun x hx ⟨a,n2,c,he2⟩=>by
        subst he2;obtain ⟨i,hi,hq⟩:=mo hx;have hl:(Value.agg cs).cells.toList.length=n:=by rw [hlen];exact beqN q2
        have hmn:=beqN q1;have h0:=hel i (by omega);rw [beqN q3,qg] at h0
        cases hxi:xs[i]? with
        |none =>
          rw [hxi] at h0;have:=List.getElem?_eq_none_iff.1 hxi;omega
        |some z =>
          rw [hxi] at h0;obtain ⟨w,e1,-,-⟩:=DataW.trod_int he h0;have e2:((Value.agg cs).cells.toList.drop i)[0]?=(((Value.agg cs).cells.toList.drop i).take 1)[0]?:=by rw [List.getElem?_take_of_lt (by omega)]
          rw [e1,k9,jq,fj hi,hq] at e2;simp at e2
      obtain ⟨tr,k1,k2⟩:=zt7 hs h hz;obtain ⟨a,rfl,_⟩:=id k1;exact ⟨_,k1,.agg (by simpa [jc,Value.cells] using k2)⟩
    . simp at q4
end
def zuj (w:Nat):Nat:=if w=0 then 0 else ke w+1
theorem ziu {n:Nat} (h:2<=n):ke n=ke (n / 2)+1:=by
  rw [Nat.log2_def,zAc h]
theorem yg2 {n:Nat} (h:256<=n):zuj n=8+zuj (n / 256):=by
  unfold zuj;rw [zAd (by omega),zAd (by omega)];rw [ziu (n:=n) (by omega),ziu (n:=n / 2) (by omega),ziu (n:=n / 2 / 2) (by omega),ziu (n:=n / 2 / 2 / 2) (by omega),ziu (n:=n / 2 / 2 / 2 / 2) (by omega),ziu (n:=n / 2 / 2 / 2 / 2 / 2) (by omega),ziu (n:=n / 2 / 2 / 2 / 2 / 2 / 2) (by omega),ziu (n:=n / 2 / 2 / 2 / 2 / 2 / 2 / 2) (by omega)];rw [show n / 2 / 2 / 2 / 2 / 2 / 2 / 2 / 2=n / 256 by omega];omega
theorem zzu {n:Nat} (h:n<65536):zuj n<=16:=by
  unfold zuj;split
  . omega
  . have:ke n<16:=(Nat.log2_lt (by omega)).2 h;omega
def yol (b:ByteArray):Bool:=(List.range 256).all fun k=>if h:k<b.size then fx b[k].toNat (zuj k) else true
theorem yay {b:ByteArray} (hb:yol b=true) {k:Nat} (hk:k<256) (h:k<b.size):b[k].toNat=zuj k:=by
  have:=List.all_eq_true.1 hb k (List.mem_range.2 hk);rw [dif_pos h] at this;exact fk this
theorem z5s (n:Int) (h:-9223372036854775808<=n/\n<=9223372036854775807):p9 n=n:=by unfold p9;omega
theorem wrapL {n:Nat} (h:n<=64):p9 (p9 (n:Int))=n:=by rw [z5s (n:Int) (by omega),z5s _ (by omega)]
set_option maxRecDepth 100000 in
set_option maxHeartbeats 2000000 in
theorem z98 (n:Nat) (W:World) (hn:n<65536):Calls Try.prog 97 #[.int .u16 n] W fun e W'=>e=.returned (.int .i64 (zuj n))/\W'=W:=by
  go_enter Try.func97,Try.ntmps97
  by_cases h:n<256
  . go_wp2
    go_ret
    refine ⟨?_,rfl⟩;clear W;refine congrArg (fun z=>Ending.returned (.int .i64 z)) ?_;rw [yay (by decide +kernel) h];exact wrapL (Nat.le_trans (zzu hn) (by decide))
  . go_wp2
    go_ret
    refine ⟨?_,rfl⟩;clear W;refine congrArg (fun z=>Ending.returned (.int .i64 z)) ?_;have hk:n / 256<256:=by omega
    have h1:=zzu (n:=n / 256) (by omega);rw [yg2 (by omega),yay (by decide +kernel) hk,z5s ((zuj (n / 256):Nat):Int) (by omega),z5s _ (by omega)];rfl
set_option maxRecDepth 100000 in
set_option maxHeartbeats 2000000 in
theorem ye6 (n z:Nat) (W:World) (hn:n<65536) (h0:n≠0) (hz:z=15 - ke n):Calls Try.prog 94 #[.int .u16 n] W fun e W'=>e=.returned (.int .i64 (z:Int))/\W'=W:=by
  have h16:=zzu hn;have hl:zuj n=ke n+1:=by unfold zuj;rw [zAd h0]
  go_enter Try.func94,Try.ntmps94
  go_wp2_with (refine (z98 _ _ hn).mono ?_;rintro e w' ⟨rfl,rfl⟩)
  go_ret
  refine ⟨?_,rfl⟩;refine congrArg (fun z=>Ending.returned (.int .i64 z)) ?_;omega
theorem yd7 {v:Value} {m:Nat} (h:i64N v=some m):v=.int .i64 (m:Nat)/\m<9223372036854775808:=by
  unfold i64N at h;split at h
  . rename_i k m';rw [zcl] at h;split at h
    . rename_i h1;simp only [fi] at h1
      have hk:k=.i64:=by
        have:=fk h1.1;cases k<;>first|rfl | (exact absurd this (by decide))
      subst hk;cases h;exact ⟨rfl,zae.1 h1.2⟩
    . cases h
  . cases h
theorem zn4:∀ {n:Nat} {cs:List Value} {l:List Nat},zgu n cs=some l->l.length=n/\(∀ j,(h:j<l.length)->l[j]<9223372036854775808)/\∀ j,(h:j<l.length)->cs[j]?=some (.int .i64 (l[j]:Nat))
  |0,cs,l,h=>by
    cases cs<;>(simp only [zgu,fd] at h;subst h;exact ⟨rfl,fun j h=>absurd h (nj _),fun j h=>absurd h (nj _)⟩)
  |n+1,[],l,h=>by simp [zgu] at h
  |n+1,v :: cs,l,h=>by
    rw [zgu] at h
    cases hv:i64N v with
    |none=>rw [hv] at h;cases h
    |some m =>
      cases hr:zgu n cs with
      |none=>rw [hv,hr] at h;cases h
      |some r =>
        rw [hv,hr] at h;cases h;obtain ⟨rfl,hm⟩:=yd7 hv;obtain ⟨a,b,c⟩:=zn4 hr;refine ⟨by rw [gg,a],fun j hj=>?_,fun j hj=>?_⟩
        . cases j with
          |zero=>exact hm
          |succ j=>exact b j (by simpa using hj)
        . cases j with
          |zero=>rfl
          |succ j=>simpa using c j (by simpa using hj)
def yfn (W:World) (v:Value) (l:List Nat):Prop:=∃ b o:Nat,v=.pointer (some ⟨b,o,none⟩)/\(∀ j,(h:j<l.length)->l[j]<9223372036854775808)/\∀ j,(h:j<l.length)->W.cell? ⟨b,o+j,none⟩=some (.int .i64 (l[j]:Nat))
theorem zl0 {n:Nat} {s s':CS} {v:Value} {l:List Nat} (h:zkp n s v=some (l,s')):Can s s'/\s'.obj=s.obj/\s'.n=s.n:=by
  unfold zkp at h;split at h
  . split at h
    . rename_i hr;split at h
      . simp only [fd,fl] at h;obtain ⟨rfl,rfl⟩:=h;refine ⟨zn1 hr,?_,?_⟩<;>(rw [(zdd hr).2])
      . cases h
    . cases h
  . cases h
theorem zua {n:Nat} {s s':CS} {v v':Value} {l:List Nat} {σ:Sg} {V:Nat->Prop} {W:World} (h:zkp n s v=some (l,s')) (hv:VR σ v v') (hr:Rel σ V s W) (hV:zcm V s'):l.length=n/\yfn W v' l:=by
  unfold zkp at h;split at h
  . rename_i a;split at h
    . rename_i cs s1 hrr;split at h
      . rename_i l1 hl;simp only [fd,fl] at h;obtain ⟨rfl,rfl⟩:=h;obtain ⟨b,o,z,h1,rfl⟩:=hv.ptr;have hrow:=zpn hrr hr hV h1;obtain ⟨a1,a2,a3⟩:=zn4 hl;refine ⟨a1,b,o+a.off,rfl,a2,fun j hj=>?_⟩;have:=a3 j hj;rw [k9] at this;obtain ⟨u',k1,k2⟩:=hrow.2.2.2 _ _ this;rw [k2.int] at k1;rw [Nat.add_assoc];exact k1
      . cases h
    . cases h
  . cases h
theorem ygh {caps:List Value} {s s':CS} {k:List Nat} (h:zj9.key caps s=some (k,s')):Can s s'/\s'.obj=s.obj/\s'.n=s.n:=by
  unfold zj9 at h;dsimp only at h;split at h
  . split at h
    . rename_i h1;split at h
      . rename_i h2;simp only [fd,fl] at h;obtain ⟨rfl,rfl⟩:=h;obtain ⟨c1,o1,n1⟩:=zl0 h1;obtain ⟨c2,o2,n2⟩:=zl0 h2;exact ⟨c1.trans c2,o2.trans o1,n2.trans n1⟩
      . cases h
    . cases h
  . cases h
theorem z6v {caps':Array Value} {k:List Nat} {W:World} (h:Now zj9 caps' k W):∃ p q l m,caps'=#[p,q]/\k=l++m/\l.length=10/\m.length=10/\yfn W p l/\yfn W q m:=by
  obtain ⟨σ,V,s,s1,caps,h1,h2,h3,h4,h5⟩:=h;unfold zj9 at h5;dsimp only at h5;split at h5
  . rename_i p q;split at h5
    . rename_i l s2 hp;split at h5
      . rename_i m s3 hq;simp only [fd,fl] at h5;obtain ⟨rfl,rfl⟩:=h5;obtain ⟨xs⟩:=caps'
        match xs,h1 with
        |[p',q'],h1 =>
          obtain ⟨v1,v2,_⟩:=h1;obtain ⟨c2,o2,n2⟩:=zl0 hq;obtain ⟨c1,o1,n1⟩:=zl0 hp;obtain ⟨a1,a2⟩:=zua hp v1 h2 (h3.back c2);obtain ⟨b1,b2⟩:=zua hq v2 (h2.state o1 n1) h3;exact ⟨p',q',l,m,rfl,rfl,a1,b1,a2,b2⟩
      . cases h5
    . cases h5
  . cases h5
/-! the bits of a word -/
theorem yaa (f:Nat):zvf f 0=[]:=by cases f<;>rfl
theorem yab {f w:Nat} (h:w≠0):zvf (f+1) w=(15 - ke w) :: zvf f (w - 2 ^ ke w):=by
  rw [zvf,zi2 h,z05];rfl
theorem yan {f w:Nat} (h:w≠0) (hw:w<2 ^ f):w - 2 ^ ke w<2 ^ (f - 1)/\w - 2 ^ ke w<w/\1<=f:=by
  have h1:ke w<f:=(Nat.log2_lt h).2 hw;have h2:w<2 ^ (ke w+1):=Nat.lt_log2_self;have h3:2 ^ ke w<=w:=qa h;have h4:2 ^ ke w<=2 ^ (f - 1):=lw (by decide) (by omega);have h5:0<2 ^ ke w:=Nat.two_pow_pos _;rw [Nat.pow_succ] at h2;exact ⟨by omega,by omega,by omega⟩
theorem z9m:∀ {i:Nat} {l m:List Nat},(h:i<l.length)->(h2:i<m.length)->∀ s,zov (s+i) (l.drop i) (m.drop i)=(zvf 17 ((l[i] - (l[i] &&& m[i])) % 65536)).map (16*(s+i)+·)++zov (s+i+1) (l.drop (i+1)) (m.drop (i+1)):=by
  intro i l m h h2 s;rw [j0 h,j0 h2,zov];rfl
theorem yho {w:Nat} (x y:BitVec w):x &&& ~~~y=x - (x &&& y):=by
  have h1:(x &&& ~~~y) &&& (x &&& y)=0#w:=by
    apply BitVec.eq_of_getLsbD_eq;intro i hi;simp only [BitVec.getLsbD_and,BitVec.getLsbD_not,hi,decide_true,jx,BitVec.getLsbD_zero];cases x.getLsbD i<;>cases y.getLsbD i<;>rfl
  have h2:(x &&& ~~~y) ||| (x &&& y)=x:=by
    apply BitVec.eq_of_getLsbD_eq;intro i hi;simp only [BitVec.getLsbD_or,BitVec.getLsbD_and,BitVec.getLsbD_not,hi,decide_true,jx];cases x.getLsbD i<;>cases y.getLsbD i<;>rfl
  have h3:=BitVec.add_eq_or_of_and_eq_zero _ _ h1;rw [h2] at h3;exact BitVec.eq_sub_iff_add_eq.2 h3
theorem zo3 (w:Nat) {a b:Nat} (ha:a<2 ^ w) (hb:b<2 ^ w):a &&& (2 ^ w - 1 - b)=a - (a &&& b):=by
  have h:=congrArg BitVec.toNat (yho (BitVec.ofNat w a) (BitVec.ofNat w b));rw [oe,BitVec.toNat_not,pl,pl,nh ha,nh hb,BitVec.toNat_sub_of_le,oe,pl,pl,nh ha,nh hb] at h
  . exact h
  . rw [BitVec.le_def,oe];exact Nat.and_le_left
theorem zyh {a b:Nat} (ha:a<9223372036854775808) (hb:b<9223372036854775808):bits .andNot .i64 (a:Int) (b:Int)=((a - (a &&& b):Nat):Int):=by
  have h:=zo3 64 (a:=a) (b:=b) (by omega) (by omega);show fh.wrap ((i6 64 (a:Int) &&& ~~~i6 64 (b:Int)).toNat:Int)=_;rw [oe,BitVec.toNat_not,lm,lm];rw [show ((a:Int) % ((2 ^ 64:Nat):Int)).toNat=a by omega,show ((b:Int) % ((2 ^ 64:Nat):Int)).toNat=b by omega,h];have hc:a - (a &&& b)<9223372036854775808:=by omega
  generalize a - (a &&& b)=c at *;simp [IntKind.wrap,IntKind.bits,IntKind.signed];split<;>omega
section
open Go Go.RowKit Go.Shelf
attribute [local go_sem] Oper.semAt_some
theorem ym9 (n:Nat):IntKind.u16.wrap (n:Int)=((n % 65536:Nat):Int):=by
  rw [IntKind.wrap_u16];omega
theorem yey {w k:Nat} (hw:w<65536) (h0:w≠0) (hk:k=ke w):bits .andNot .u16 (w:Int) (IntKind.u16.wrap (2 ^ k))=((w - 2 ^ k:Nat):Int):=by
  subst hk;have h1:=qa h0;have h2:(2:Int) ^ ke w=((2 ^ ke w:Nat):Int):=by rw [Int.natCast_pow];rfl
  rw [h2,ym9,nh (by omega),u16_andNot_nat _ _ hw (by omega)];rw [show 65535 - 2 ^ ke w=2 ^ 16 - 1 - 2 ^ ke w from rfl,zo3 16 hw (by omega),show w &&& 2 ^ ke w=2 ^ ke w from ?_];apply Nat.eq_of_testBit_eq;intro i;rw [Nat.testBit_and,Nat.testBit_two_pow];by_cases h:ke w=i
  . rw [<- h,Nat.testBit_log2 h0];simp
  . simp [h]
set_option maxRecDepth 100000 in
set_option maxHeartbeats 4000000 in
theorem ycu (caps':Array Value) (k:List Nat) (kd l:Nat) (J:List (Nat×Obj)->Nat->World->Prop) (Jx:World->Prop) (W:World)
    (hN:∀ K j W1,J K j W1->Now zj9 caps' k W1)
    (hY:∀ kd' K j x W1,(zj9.xs k)[j]?=some x->J K j W1->YieldAt md kd' Try.prog l x.toArray W1 fun e W'=>(e=.returned (.bool true)/\J K (j+1) W')\/(e=.returned (.bool false)/\Jx W'))
    (hB:∀ K j W1 W2,J K j W1->Below W1.heap.size W1 W2->J K j W2) (h0:J [] 0 W):CallsIn md kd Try.prog 93 (#[.func (.yield l) #[] #[]]++caps') W fun e W'=>(∃ v,e=.returned v)/\((∃ K,J K (zj9.xs k).length W')\/Jx W'):=by
  obtain ⟨p,q,L,M,rfl,rfl,hL,hM,hp,hq⟩:=z6v (hN [] 0 W h0);obtain ⟨b1,o1,rfl,hLm,hp⟩:=hp;obtain ⟨b2,o2,rfl,hMm,hq⟩:=hq
  have hcells:∀ j W1,J [] j W1->(∀ i,(h:i<L.length)->W1.cell? ⟨b1,o1+i,none⟩=some (.int .i64 (L[i]:Nat)))/\(∀ i,(h:i<M.length)->W1.cell? ⟨b2,o2+i,none⟩=some (.int .i64 (M[i]:Nat))):=by
    intro j W1 hj;obtain ⟨p,q,L',M',e1,e2,hL',hM',hp',hq'⟩:=z6v (hN [] j W1 hj);obtain ⟨rfl,rfl⟩:=List.append_inj e2 (by rw [hL,hL']);obtain ⟨b1',o1',rfl,_,hp'⟩:=hp';obtain ⟨b2',o2',rfl,_,hq'⟩:=hq';simp only [Array.mk.injEq,ow,Value.pointer.injEq,fd,Addr.mk.injEq,and_true] at e1;obtain ⟨⟨rfl,rfl⟩,rfl,rfl⟩:=e1;exact ⟨hp',hq'⟩
  show CallsIn md kd Try.prog 93 #[.func (.yield l) #[] #[],.pointer (some ⟨b1,o1,none⟩),.pointer (some ⟨b2,o2,none⟩)] W _;obtain ⟨X,hX⟩:∃ X,X=zj9.xs (L++M):=⟨_,rfl⟩
  have HX:X=(zov 0 L M).map fun n=>[.int .i64 (.ofNat n)]:=by
    rw [hX];show (zov 0 ((L++M).take 10) ((L++M).drop 10)).map _=_;rw [jw (by omega),ii (by omega),qh (by omega),iv (by omega),ge]
  rw [<- hX] at hY ⊢;refine callsIn_of_wp Try.func93 rfl trivial ?_ rfl;simp only [Try.ntmps93,List.size_toArray,gg,jd,ft,iy,Array.replicate_succ,Array.replicate_zero,List.push_toArray,List.append_toArray,ge,gp]
  gi_wp2
  gi_loopw [7] (fun v wr=>∃ i j:Nat,j<=X.length/\i<=10/\v=.int .i64 i/\J [] j wr/\X.drop j=(zov i (L.drop i) (M.drop i)).map fun n=>[.int .i64 (.ofNat n)])
    (fun v _=>10 - (intOf v).toNat)
  case atStart=>exact ⟨0,0,io _,io _,rfl,h0,by rw [gl,gl,gl];exact HX⟩
  case round =>
    obtain ⟨i,j,hjX,hi,rfl,hJ,hd⟩:=hrel;by_cases hlt:i<10
    . obtain ⟨c1,c2⟩:=hcells j _ hJ;have h1:=c1 i (by omega);have h2:=c2 i (by omega);have a1:=hLm i (by omega);have a2:=hMm i (by omega);have hod:=z9m (i:=i) (l:=L) (m:=M) (by omega) (by omega) 0;rw [i4] at hod;have han:=zyh a1 a2;have hle:L[i] - (L[i] &&& M[i])<9223372036854775808:=by omega
      gi_wp2
      gi_region
      rw [ym9]
      gi_wp2
      have hJ':=hB [] j wr wr.drew hJ ((Below.refl wr.heap.size wr).drew);clear hJ hcells c1 c2 h1 h2;obtain ⟨w0,hw0⟩:∃ w0,w0=(L[i] - (L[i] &&& M[i])) % 65536:=⟨_,rfl⟩;rw [<- hw0] at hod ⊢;have hw1:w0<65536:=by omega
      rw [hod] at hd;clear hod han hle hw0 a1 a2;obtain ⟨R,hR⟩:∃ R,R=zov (i+1) (L.drop (i+1)) (M.drop (i+1)):=⟨_,rfl⟩;rw [<- hR] at hd
      gi_loopw [5] (fun v wr=>∃ w f j:Nat,j<=X.length/\v=.int .u16 w/\w<2 ^ f/\f<=16/\J [] j wr/\X.drop j=((zvf (f+1) w).map (fun x=>16*i+x)++R).map fun n=>[.int .i64 (.ofNat n)])
        (fun v _=>(intOf v).toNat)
      case atStart=>exact ⟨w0,16,j,hjX,rfl,hw1,fm _,hJ',hd⟩
      case round =>
        obtain ⟨w,f,j,hjX,rfl,hw,hf,hJ,hd⟩:=hrel;have hw2:w<65536:=Nat.lt_of_lt_of_le hw (lw (by decide) hf);by_cases h0:w=0
        . subst h0;rw [yaa,pc,ge,hR] at hd
          gi_wp2
          go_roundw
          case rel=>exact ⟨i+1,j,hjX,by omega,by go_num,hJ,hd⟩
          case measure=>simp [intOf];omega
        . obtain ⟨q1,q2,q3⟩:=yan h0 hw;obtain ⟨z,hz⟩:∃ z,z=15 - ke w:=⟨_,rfl⟩;have hz15:z<=15:=by omega
          have hlg:ke w<=15:=by
            have:=(Nat.log2_lt h0).2 (show w<2 ^ 16 by omega);omega
          obtain ⟨w2,hw2e⟩:∃ w2,w2=w - 2 ^ ke w:=⟨_,rfl⟩;rw [yab h0,<- hz,<- hw2e,iz,gp,iz] at hd
          have hjl:j<X.length:=by
            have:=congrArg List.length hd;simp at this;omega
          rw [j0 hjl] at hd;obtain ⟨hd1,hd2⟩:=List.cons.inj hd;have hx:X[j]?=some [.int .i64 (.ofNat (16*i+z))]:=by rw [fj hjl,hd1]
          obtain ⟨fn,tmps,assign,body,hy,hR1⟩:=hY (kd - 1) [] j _ wr hx hJ;have hcall:=ye6 w z wr hw2 h0 hz;have hcl:=yey (k:=15 - z) hw2 h0 (by omega);rw [show 15 - z=ke w by omega,<- hw2e,show ke w=15 - z by omega] at hcl
          have hpw:2 ^ (15 - z)<=w/\2 ^ (15 - z)<65536:=by
            have e:15 - z=ke w:=by omega
            rw [e];exact ⟨qa h0,Nat.lt_of_le_of_lt (qa h0) hw2⟩
          rw [<- hw2e] at q1 q2;clear hz hw2e hlg;rw [show qn (16*i+z)=16*(i:Int)+(z:Int) from by simp] at hy;clear hd
          gi_wp2_with (refine ⟨trivial,fun hq=>absurd hq (by simp [md]),(callsIn_wide.2 hcall).mono ?_⟩;rintro e w' ⟨rfl,rfl⟩)
          refine ⟨fun hq=>absurd hq (by simp [md]),hR1.mono ?_⟩;rintro e W3 (⟨rfl,hJ3⟩|⟨rfl,hJx3⟩)
          . gi_wp2
            go_roundw
            case rel =>
              exact ⟨w2,f - 1,j+1,by omega,rfl,q1,by omega,hJ3,by rw [hd2,Nat.sub_add_cancel q3]⟩
            case measure =>
              show (w2:Int).toNat<(w:Int).toNat
              omega
          . gi_wp2
            refine bodyPost_ret (results_none rfl _ _ _) rfl ?_;exact ⟨⟨_,rfl⟩,.inr hJx3⟩
    . obtain rfl:i=10:=by omega
      gi_wp2
      go_end0
      rw [iv (show L.length<=10 by omega)] at hd
      have hjX2:X.length<=j:=by
        have:=congrArg List.length hd;simp [zov] at this;omega
      obtain rfl:j=X.length:=Nat.le_antisymm hjX hjX2;exact ⟨⟨_,rfl⟩,.inl ⟨_,hJ⟩⟩
theorem ylx:ItOk Try.prog 93 zj9 where
  can:=fun caps s k s' h _=>ygh h
  plain:=fun k x hx σ=>by
    obtain ⟨n,_,rfl⟩:=jn.1 hx;exact ⟨pq _ _,trivial⟩
  enter:=enters_of Try.func93 (by kernel_rfl) rfl
  runs:=fun caps' k kd l J Jx W h1 h2 _ _ _ h4 h5=>ycu caps' k kd l J Jx W h1 h4 h2 h5
end
theorem zud:∀ {n:Nat} {cs:List Value} {L:List Nat},zkq n cs=some L->L.length=10*n/\∀ i,i<n->zgu 10 (cs.drop (23*i+1))=some (zev L i)
  |0,cs,L,h=>by
    simp only [zkq,fd] at h;subst h;exact ⟨rfl,fun i hi=>absurd hi (nj _)⟩
  |n+1,cs,L,h=>by
    rw [zkq] at h
    cases hl:zgu 10 (cs.drop 1) with
    |none=>rw [hl] at h;cases h
    |some l =>
      cases hr:zkq n (cs.drop 23) with
      |none=>rw [hl,hr] at h;cases h
      |some r =>
        rw [hl,hr] at h;simp only [fd] at h;subst h;obtain ⟨h1,h2⟩:=zud hr;have h3:=(zn4 hl).1;refine ⟨by rw [fw,h1,h3];omega,fun i hi=>?_⟩
        cases i with
        |zero =>
          rw [Nat.mul_zero,i4,hl];unfold zev;rw [Nat.mul_zero,gl,<- h3,List.take_left]
        |succ i =>
          have:=h2 i (by omega);rw [ln] at this;rw [show 23*(i+1)+1=23+(23*i+1) by omega,this];unfold zev;rw [mg,iv (l:=l) (by omega),ge,h3,show 10*(i+1) - 10=10*i by omega]
def ymy (W:World) (p:Option Addr) (n:Nat) (L:List Nat):Prop:=0<n->∃ b o,p=some ⟨b,o,none⟩/\∀ i,i<n->(zev L i).length=10/\∀ j,(h:j<(zev L i).length)->W.cell? ⟨b,o+23*i+1+j,none⟩=some (.int .i64 ((zev L i)[j]:Nat))
theorem zwh {s s':CS} {v:Value} {l:List Nat} (h:zrh s v=some (l,s')):Can s s'/\s'.obj=s.obj/\s'.n=s.n:=by
  unfold zrh at h;split at h
  . cases h;exact ⟨Can.refl _,rfl,rfl⟩
  . split at h
    . rename_i hr;split at h
      . obtain ⟨_,h⟩:=zef h;simp only [fd,fl] at h;obtain ⟨rfl,rfl⟩:=h;refine ⟨zn1 hr,?_,?_⟩<;>(rw [(zdd hr).2])
      . cases h
    . cases h
  . cases h
theorem z85 {s s':CS} {v v':Value} {k:List Nat} {σ:Sg} {V:Nat->Prop} {W:World} (h:zrh s v=some (k,s')) (hv:VR σ v v') (hr:Rel σ V s W) (hV:zcm V s'):∃ n L p c,k=n :: L/\n<1000000000/\v'=.slice p n c/\ymy W p n L:=by
  unfold zrh at h;split at h
  . rename_i p c;simp only [fd,fl] at h;obtain ⟨rfl,rfl⟩:=h
    cases p with
    |none =>
      obtain ⟨_,_,rfl⟩:=hv.out;exact ⟨0,[],_,_,rfl,by decide,rfl,fun h=>absurd h (Nat.lt_irrefl _)⟩
    |some a =>
      obtain ⟨b,o,z,h1,a',c',rfl,_⟩:=hv.out;exact ⟨0,[],_,_,rfl,by decide,rfl,fun h=>absurd h (Nat.lt_irrefl _)⟩
  . rename_i a n c;split at h
    . rename_i cs s1 hrr;split at h
      . rename_i l hl;obtain ⟨hn,h⟩:=zef h;simp only [fd,fl] at h;obtain ⟨rfl,rfl⟩:=h;obtain ⟨b,o,z,h1,a',c',rfl,k1,k2,k3,k4,_⟩:=hv.out;have hrow:=zpn hrr hr hV h1;have ha:=k4 (by omega);subst ha;refine ⟨n+1,l,_,c',rfl,zae.1 hn,rfl,fun _=>⟨b,o+a.off,rfl,fun i hi=>?_⟩⟩;have h3:=(zud hl).2 i hi;obtain ⟨a1,a2,a3⟩:=zn4 h3;refine ⟨a1,fun j hj=>?_⟩;have:=a3 j hj;rw [ln,k9] at this;obtain ⟨u',q1,q2⟩:=hrow.2.2.2 _ _ this;rw [q2.int] at q1;rw [show o+a.off+23*i+1+j=o+(a.off+(23*i+1)+j) by omega];exact q1
      . cases h
    . cases h
  . cases h
theorem ydb {caps:List Value} {s s':CS} {k:List Nat} (h:zg5.key caps s=some (k,s')):Can s s'/\s'.obj=s.obj/\s'.n=s.n:=by
  unfold zg5 at h;dsimp only at h;split at h
  . split at h
    . rename_i hr;split at h
      . obtain ⟨c2,o2,n2⟩:=zwh h;have e:=(zdd hr).2;exact ⟨(zn1 hr).trans c2,by rw [o2,e],by rw [n2,e]⟩
      . cases h
    . cases h
  . cases h
theorem z13 {caps':Array Value} {k:List Nat} {W:World} (h:Now zg5 caps' k W):∃ bt ot n L p c,caps'=#[.pointer (some ⟨bt,ot,none⟩)]/\k=n :: L/\n<1000000000/\W.cell? ⟨bt,ot,none⟩=some (.slice p n c)/\ymy W p n L:=by
  obtain ⟨σ,V,s,s1,caps,h1,h2,h3,h4,h5⟩:=h;unfold zg5 at h5;dsimp only at h5;split at h5
  . rename_i a;split at h5
    . rename_i cs s2 hrr;split at h5
      . rename_i v rest hd;obtain ⟨xs⟩:=caps'
        match xs,h1 with
        |[p'],h1 =>
          obtain ⟨v1,_⟩:=h1;obtain ⟨b,o,z,q1,rfl⟩:=v1.ptr;obtain ⟨c2,o2,n2⟩:=zwh h5;have hrow:=zpn hrr h2 (h3.back c2) q1;have e:=(zdd hrr).2
          have hv:cs[a.off]?=some v:=by
            have:=k9 (xs:=cs) (i:=a.off) (j:=0);rw [hd] at this;simpa using this.symm
          obtain ⟨u',w1,w2⟩:=hrow.2.2.2 _ _ hv;obtain ⟨n,L,p,c,rfl,k2,rfl,k4⟩:=z85 h5 w2 (h2.state (by rw [e]) (by rw [e])) h3;exact ⟨b,o+a.off,n,L,p,c,rfl,rfl,k2,w1,k4⟩
      . cases h5
    . cases h5
  . cases h5
/-! what the iterator yields, by its place -/
theorem sN_t:∀ {l m:List Nat},l=m->zh2 l m=true
  |[],_,h=>by subst h;rfl
  |a :: l,_,h=>by subst h;rw [zh2,sN_t rfl,Nat.beq_refl];rfl
theorem sN_f {l m:List Nat} (h:l≠m):zh2 l m=false:=by
  cases hb:zh2 l m with
  |false=>rfl
  |true=>exact absurd (ztp hb).symm h
theorem zi0:∀ n,(zi1 n).length=n
  |0=>rfl
  |n+1=>by rw [zi1,fw,zi0 n];rfl
theorem z2z:∀ {n i:Nat},i<n->(zi1 n)[i]?=some (zvw 1 i 0)
  |0,i,h=>absurd h (nj _)
  |n+1,i,h=>by
    rw [zi1];by_cases hi:i<n
    . rw [gh (by rw [zi0];exact hi),z2z hi]
    . have:i=n:=by omega
      subst this;rw [il (by rw [zi0];exact fm _),zi0,Nat.sub_self];rfl
theorem z1o (l:List Nat) (k:Nat):∀ {i j:Nat},i<=j->∃ r,zi7 l k j=zi7 l k i++r
  |i,0,h=>⟨[],by rw [show i=0 by omega];rfl⟩
  |i,j+1,h=>by
    by_cases hi:i=j+1
    . exact ⟨[],by rw [hi,gr]⟩
    . obtain ⟨r,hr⟩:=z1o l k (i:=i) (j:=j) (by omega);exact ⟨_,by rw [zi7,hr,gi]⟩
theorem yfg (l:List Nat):∀ {i j:Nat},i<=j->∃ r,zcx l j=zcx l i++r
  |i,0,h=>⟨[],by rw [show i=0 by omega];rfl⟩
  |i,j+1,h=>by
    by_cases hi:i=j+1
    . exact ⟨[],by rw [hi,gr]⟩
    . obtain ⟨r,hr⟩:=yfg l (i:=i) (j:=j) (by omega);exact ⟨_,by rw [zcx,hr,gi]⟩
noncomputable def posF (n:Nat) (l:List Nat) (k i:Nat):Nat:=n+((zcx l k).length+(zi7 l k i).length)
theorem ylq {n k i:Nat} {l:List Nat} (hk:k<n) (hi:i<k) (he:zev l i=zev l k) (z:Nat) (hz:z<2):(zi1 n++zcx l n)[posF n l k i+z]?=some (zvw (2+z) i k):=by
  obtain ⟨r1,h1⟩:=yfg l (i:=k+1) (j:=n) (by omega);obtain ⟨r2,h2⟩:=z1o l k (i:=i+1) (j:=k) (by omega);rw [h1,zcx,h2,zi7,sN_t he,zbf];unfold posF;rw [il (by rw [zi0];omega),zi0,show n+((zcx l k).length+(zi7 l k i).length)+z - n=(zcx l k).length+((zi7 l k i).length+z) by omega];rw [gi,il (by omega),Nat.add_sub_cancel_left,gi,gi,il (by omega),Nat.add_sub_cancel_left]
  match z,hz with
  |0,_=>rfl
  |1,_=>rfl
theorem yge {n k i:Nat} {l:List Nat} (he:zev l i=zev l k):posF n l k (i+1)=posF n l k i+2:=by
  unfold posF;rw [zi7,sN_t he,zbf,fw];rfl
theorem ygd {n k i:Nat} {l:List Nat} (he:zev l i≠zev l k):posF n l k (i+1)=posF n l k i:=by
  unfold posF;rw [zi7,sN_f he,z05,gr]
theorem yns {n k:Nat} {l:List Nat}:posF n l (k+1) 0=posF n l k k:=by
  unfold posF;rw [zcx,fw];rfl
theorem ylr {n:Nat} {l:List Nat}:posF n l n 0=(zi1 n++zcx l n).length:=by
  unfold posF;rw [fw,zi0];rfl
section
open Go Go.RowKit Go.Shelf
attribute [local go_sem] Oper.semAt_some
def nV (l:List Nat):List Value:=l.map fun x=>.int .i64 (x:Nat)
theorem z4q:∀ {n:Nat} {l:List Nat},l.length=n->zem (f7 n (.int .i64)) (nV l)=true
  |0,[],_=>rfl
  |n+1,x :: l,h=>by
    rw [jb,nV,iz,zem];have:=z4q (n:=n) (l:=l) (by simpa using h);rw [nV] at this;rw [this];rfl
  |0,_ :: _,h=>by simp at h
  |_+1,[],h=>by simp at h
theorem yn3:∀ {l m:List Nat},l.length=m.length->eqVs (nV l) (nV m)=decide (l=m)
  |[],[],_=>by simp [nV,eqVs]
  |x :: l,y :: m,h=>by
    have ih:=yn3 (l:=l) (m:=m) (by simpa using h);rw [nV,nV] at ih;rw [nV,nV,iz,iz,eqVs,ih];by_cases hx:x=y
    . subst hx;simp [znk]
    . have:znk (.int .i64 (x:Nat)) (.int .i64 (y:Nat))=false:=by simp only [znk];rw [beq_eq_false_iff_ne];omega
      rw [this];simp [hx]
  |[],_ :: _,h=>by simp at h
  |_ :: _,[],h=>by simp at h
theorem yox {P:gn} {t:gm} {sh:List CK} {xs ys:List Value} {r:Bool} (hs:zg2 P 10000 t=some (true,sh)) (hx:zem sh xs=true) (hy:zem sh ys=true) (hr:eqVs xs ys=r) (w:World):(kw 10000 t (.agg xs.toArray) (.agg ys.toArray)).run P w=.ok r w :=
  z2v (by rw [<- hr];exact ykk 10000 hs hx hy) w
theorem yd8 {l m:List Nat} (hl:l.length=10) (hm:m.length=10) {r:Bool} (hr:decide (l=m)=r) (w:World):(kw 10000 43 (.agg (nV l).toArray) (.agg (nV m).toArray)).run Try.prog w=.ok r w :=
  yox (sh:=f7 10 (.int .i64)) (by kernel_rfl) (z4q hl) (z4q hm) ((yn3 (by rw [hl,hm])).trans hr) w
theorem ye1 {W:World} {b o:Nat} {l:List Nat} (hl:l.length=10) (h:∀ j,(hj:j<l.length)->W.cell? ⟨b,o+j,none⟩=some (.int .i64 (l[j]:Nat))):∃ x0 x1 x2 x3 x4 x5 x6 x7 x8 x9:Nat,l=[x0,x1,x2,x3,x4,x5,x6,x7,x8,x9]/\∀ j,(hj:j<10)->W.cell? ⟨b,o+j,none⟩=some (.int .i64 ([x0,x1,x2,x3,x4,x5,x6,x7,x8,x9][j]:Nat)):=by
  match l,hl with
  |[x0,x1,x2,x3,x4,x5,x6,x7,x8,x9],_=>exact ⟨x0,x1,x2,x3,x4,x5,x6,x7,x8,x9,rfl,fun j hj=>h j hj⟩
theorem z14 {σ:Sg} (a b c:Nat):VR σ (.agg #[.int .i64 (.ofNat a),.int .i64 (.ofNat b),.int .i64 (.ofNat c)]) (.agg #[.int .i64 (.ofNat a),.int .i64 (.ofNat b),.int .i64 (.ofNat c)]):=VR.mk ⟨_,rfl,pq _ _,pq _ _,pq _ _,trivial⟩
set_option maxRecDepth 100000 in
set_option maxHeartbeats 4000000 in
theorem z9q (caps':Array Value) (k:List Nat) (kd l:Nat) (J:List (Nat×Obj)->Nat->World->Prop) (Jx:World->Prop) (W:World)
    (hN:∀ K j W1,J K j W1->Now zg5 caps' k W1)
    (hK:∀ K j W1 W2 b o,J K j W1->Below W1.heap.size W1 W2->W1.heap.size<=b->W2.heap[b]?=some o->J ((b,o) :: K) j W2) (hk:∀ K j W1 b o,J K j W1->(b,o)∈K->W1.heap[b]?=some o)
    (hY:∀ kd' K j x W1,(zg5.xs k)[j]?=some x->J K j W1->YieldAt md kd' Try.prog l x.toArray W1 fun e W'=>(e=.returned (.bool true)/\J K (j+1) W')\/(e=.returned (.bool false)/\Jx W'))
    (hB:∀ K j W1 W2,J K j W1->Below W1.heap.size W1 W2->J K j W2) (h0:J [] 0 W):CallsIn md kd Try.prog 66 (#[.func (.yield l) #[] #[]]++caps') W fun e W'=>(∃ v,e=.returned v)/\((∃ K,J K (zg5.xs k).length W')\/Jx W'):=by
  obtain ⟨bt,ot,n,L,p0,c0,rfl,rfl,hn,hc0,ht0⟩:=z13 (hN [] 0 W h0)
  have hcells:∀ K j W1,J K j W1->∃ p c,W1.cell? ⟨bt,ot,none⟩=some (.slice p n c)/\ymy W1 p n L:=by
    intro K j W1 hj;obtain ⟨bt',ot',n',L',p,c,e1,e2,_,h3,h4⟩:=z13 (hN K j W1 hj);simp only [Array.mk.injEq,ow,Value.pointer.injEq,fd,Addr.mk.injEq,and_true] at e1 e2;obtain ⟨rfl,rfl⟩:=e1;obtain ⟨rfl,rfl⟩:=e2;exact ⟨p,c,h3,h4⟩
  clear ht0;show CallsIn md kd Try.prog 66 #[.func (.yield l) #[] #[],.pointer (some ⟨bt,ot,none⟩)] W _;have hX:zg5.xs (n :: L)=zi1 n++zcx L n:=rfl;rw [hX] at hY ⊢;refine callsIn_of_wp Try.func66 rfl trivial ?_ rfl;simp only [Try.ntmps66,List.size_toArray,gg,jd,ft,iy,Array.replicate_succ,Array.replicate_zero,List.push_toArray,List.append_toArray,ge,gp]
  gi_wp2
  gi_loopw [10] (fun v wr=>∃ i:Nat,i<=n/\v=.int .i64 i/\J [] i wr) (fun v _=>n - (intOf v).toNat)
  case atStart=>exact ⟨0,io _,rfl,h0⟩
  case round =>
    obtain ⟨i,hi,rfl,hJ⟩:=hrel;by_cases hlt:i<n
    . have hx:(zi1 n++zcx L n)[i]?=some (zvw 1 i 0):=by rw [gh (by rw [zi0];exact hlt),z2z hlt]
      obtain ⟨fn,tmps,assign,body,hy,hR1⟩:=hY (kd - 1) [] i _ wr hx hJ;unfold zvw at hy;rw [show qn 1=(1:Int) from rfl,show qn i=(i:Int) from rfl,show qn 0=(0:Int) from rfl] at hy
      gi_wp2
      refine ⟨fun hq=>absurd hq (by simp [md]),hR1.mono ?_⟩;rintro e W3 (⟨rfl,hJ3⟩|⟨rfl,hJx3⟩)
      . gi_wp2
        go_roundw
        case rel=>exact ⟨i+1,by omega,by go_num,hJ3⟩
        case measure=>simp [intOf];omega
      . gi_wp2
        refine bodyPost_ret (results_none rfl _ _ _) rfl ?_;exact ⟨⟨_,rfl⟩,.inr hJx3⟩
    . obtain rfl:i=n:=by omega
      obtain ⟨p,c,hc,-⟩:=hcells [] _ wr hJ
      gi_wp2
      clear hlt hi hc
      gi_loopw [21] (fun v wr=>∃ (K:List (Nat×Obj)) (k:Nat),k<=i/\v=.int .i64 k/\J K (posF i L k 0) wr) (fun v _=>i - (intOf v).toNat)
      case atStart=>exact ⟨[],0,io _,rfl,hJ⟩
      case round =>
        obtain ⟨K,k,hk1,rfl,hJ⟩:=hrel;by_cases hlt:k<i
        . gi_wp2
          gi_loopw [25] (fun v wr=>∃ (K:List (Nat×Obj)) (m:Nat),m<=k/\v=.int .i64 m/\J K (posF i L k m) wr) (fun v _=>k - (intOf v).toNat)
          case atStart=>exact ⟨K,0,io _,rfl,hJ⟩
          case round =>
            obtain ⟨K,m,hm1,rfl,hJ⟩:=hrel;by_cases hmk:m<k
            . obtain ⟨p,c,hc,ht⟩:=hcells K _ wr hJ;obtain ⟨b,o,rfl,ht2⟩:=ht (by omega);obtain ⟨e1,c1⟩:=ht2 m (by omega);obtain ⟨e2,c2⟩:=ht2 k (by omega);obtain ⟨x0,x1,x2,x3,x4,x5,x6,x7,x8,x9,hx,d1⟩:=ye1 (o:=o+m*23+1) e1 (fun j hj=>by rw [show o+m*23+1+j=o+23*m+1+j by omega];exact c1 j hj);obtain ⟨y0,y1,y2,y3,y4,y5,y6,y7,y8,y9,hy,d2⟩:=ye1 (o:=o+k*23+1) e2 (fun j hj=>by rw [show o+k*23+1+j=o+23*k+1+j by omega];exact c2 j hj);have d3:=d1 0 (by decide);have d4:=d2 0 (by decide);simp only [jq,List.getElem_cons_zero] at d3 d4;clear c1 c2 ht2 ht;by_cases he:zev L m=zev L k
              . have q:=fun w=>yd8 e1 e2 (zAa he) w;rw [hx,hy] at q;simp only [nV,iz,pc] at q;clear e1 e2 hx hy
                gi_wp2
                gi_region
                gi_wp2
                have hb:Below wr.heap.size wr (wr.alloc (Obj.cells #[jg fh 2,jg fh 3] 3)).drew:=((Below.refl wr.heap.size wr).alloc (fm _) _).drew;have hJ2:=hK K _ wr _ wr.heap.size _ hJ hb (fm _) (World.alloc_heap_new wr _);have hx:∀ z,z<2->(zi1 i++zcx L i)[posF i L k m+z]?=some (zvw (2+z) m k):=fun z hz=>ylq hlt hmk he z hz;obtain ⟨K2,hK2⟩:∃ K2,K2=(wr.heap.size,Obj.cells #[jg fh 2,jg fh 3] 3) :: K:=⟨_,rfl⟩;have hin:(wr.heap.size,Obj.cells #[jg fh 2,jg fh 3] 3)∈K2:=by rw [hK2];exact .head _
                rw [<- hK2] at hJ2;obtain ⟨B,hB0⟩:∃ B,B=wr.heap.size:=⟨_,rfl⟩;rw [<- hB0] at hin ⊢;clear hK2 hJ hb d1 d2 d3 d4 q hc hcells hK hB0
                gi_loopw [43] (fun v wr=>∃ (z:Nat),z<=2/\v=.int .i64 z/\J K2 (posF i L k m+z) wr) (fun v _=>2 - (intOf v).toNat)
                case atStart=>exact ⟨0,by decide,rfl,hJ2⟩
                case round =>
                  obtain ⟨z,hz,rfl,hJ⟩:=hrel;by_cases hz2:z<2
                  . have hrow:=hk _ _ _ _ _ hJ hin
                    have hcell:wr.cell? ⟨B,z,none⟩=some (.int .i64 ((2+z:Nat))):=by
                      match z,hz2 with
                      |0,_=>simp [rp,hrow]
                      |1,_=>simp [rp,hrow]
                    obtain ⟨fn,tmps,assign,body,hy,hR1⟩:=hY (kd - 1) K2 _ _ wr (hx z hz2) hJ;unfold zvw at hy;rw [show qn (2+z)=2+(z:Int) from by simp,show qn m=(m:Int) from rfl,show qn k=(k:Int) from rfl] at hy
                    gi_wp2
                    refine ⟨fun hq=>absurd hq (by simp [md]),hR1.mono ?_⟩;rintro e W3 (⟨rfl,hJ3⟩|⟨rfl,hJx3⟩)
                    . gi_wp2
                      go_roundw
                      case rel=>exact ⟨z+1,by omega,by go_num,hJ3⟩
                      case measure=>simp [intOf];omega
                    . gi_wp2
                      refine bodyPost_ret (results_none rfl _ _ _) rfl ?_;exact ⟨⟨_,rfl⟩,.inr hJx3⟩
                  . obtain rfl:z=2:=by omega
                    gi_wp2
                    exact ⟨⟨K2,m+1,by omega,by go_num,by rw [yge he];exact hJ⟩,by simp [intOf];omega⟩
              . have q:=fun w=>yd8 e1 e2 (zAb he) w;rw [hx,hy] at q;simp only [nV,iz,pc] at q;clear e1 e2 hx hy
                gi_wp2
                gi_region
                gi_wp2
                go_roundw
                case rel=>exact ⟨K,m+1,by omega,by go_num,by rw [ygd he];exact hB _ _ wr wr.drew hJ ((Below.refl wr.heap.size wr).drew)⟩
                case measure=>simp [intOf];omega
            . obtain rfl:m=k:=by omega
              gi_wp2
              go_roundw
              case rel=>exact ⟨K,m+1,by omega,by go_num,by rw [yns];exact hJ⟩
              case measure=>simp [intOf];omega
        . obtain rfl:k=i:=by omega
          gi_wp2
          go_end0
          rw [ylr] at hJ;exact ⟨⟨_,rfl⟩,.inl ⟨_,hJ⟩⟩
theorem ygt:ItOk Try.prog 66 zg5 where
  can:=fun caps s k s' h _=>ydb h
  plain:=fun k x hx σ=>by
    cases k with
    |nil=>simp [zg5] at hx
    |cons n l =>
      have h1:∀ n x,x∈zi1 n->RL (VR σ) x x:=by
        intro n
        induction n with
        |zero=>intro x hx;simp [zi1] at hx
        |succ n ih =>
          intro x hx;rw [zi1,im] at hx;rcases hx with hx|hx
          . exact ih x hx
          . rw [gt] at hx;subst hx;exact ⟨z14 _ _ _,trivial⟩
      have h2:∀ k i x,x∈zi7 l k i->RL (VR σ) x x:=by
        intro k i
        induction i with
        |zero=>intro x hx;simp [zi7] at hx
        |succ i ih =>
          intro x hx;rw [zi7,im] at hx;rcases hx with hx|hx
          . exact ih x hx
          . rw [zcl] at hx;split at hx
            . simp only [List.mem_cons,List.not_mem_nil,or_false] at hx;rcases hx with rfl|rfl<;>exact ⟨z14 _ _ _,trivial⟩
            . simp at hx
      have h3:∀ k x,x∈zcx l k->RL (VR σ) x x:=by
        intro k
        induction k with
        |zero=>intro x hx;simp [zcx] at hx
        |succ k ih =>
          intro x hx;rw [zcx,im] at hx;rcases hx with hx|hx
          . exact ih x hx
          . exact h2 k k x hx
      rcases im.1 hx with hx|hx
      . exact h1 n x hx
      . exact h3 n x hx
  enter:=enters_of Try.func66 (by kernel_rfl) rfl
  runs:=fun caps' k kd l J Jx W h1 h2 _ h4 h5 h6 h7=>z9q caps' k kd l J Jx W h1 h4 h5 h6 h2 h7
end
end Go.Proofs.Ytkfnjbfnkpameaa
