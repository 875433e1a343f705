/- Part 5 of the proof of MergeStepsAsSpecified (several texts in one; no further condition). -/
import Derived.Test.YtkfnjbfnkpameaaZD
import Derived.Test.YtkfnjbfnkpameaaProg
import Derived.KernelRfl
import GoSem.Claim
import Derived.ProofKit
import Derived.OpenShut
import Derived.ShutString
import Derived.ChangeOld
import Derived.Below
import Derived.Carry
import Derived.Deep.Slices
import Derived.SizedLaws
import Derived.JoinedCond
import Derived.WalkKit
import Derived.LoopNIn
import Derived.LoopIn
import Derived.Test.YtkfnjbfnkpameaaZC
import Derived.Laws.BitsAllLaws
import Derived.RangeFuncBox
import Derived.RangeFuncLeaves
import Derived.Shelf.Abstract
import Derived.OwnWalkIn
import Derived.TacticsInMore
import Derived.BigRegionIn
import Derived.Deep.MidRow
set_option linter.unusedSimpArgs false
set_option linter.unusedVariables false
set_option linter.unusedSectionVars false
namespace Go.Proofs.Ytkfnjbfnkpameaa
noncomputable section
open Go.Addr renaming add_lit->n6
open _root_.And renaming intro->fe
open _root_.Array renaming getElem?_eq_getElem->lc
open _root_.BitVec renaming ofInt->jb,toNat_and->ov,toNat_ofInt->lz,toNat_ofNat->pv
open _root_.Bool renaming and_eq_true->fk,and_self->gd,eq_iff_iff->ky,true_and->kg
open _root_.Eq renaming trans->f7
open Go.Fence renaming wide->mo
open _root_.Go.RowKit renaming wrap64->qj
open _root_.Int renaming ofNat->qz
open Go renaming IntKind->iy,Operand->gb,Program->gt,TypeId->gi
open Go.IntKind renaming i64->fj
open _root_.List renaming all_cons->jr,append_assoc->gq,append_nil->h9,cons_append->gw,drop_append->mu,drop_append_of_le_length->qr,drop_drop->l6,drop_eq_getElem_cons->kv,drop_of_length_le->i4,drop_succ_cons->k9,drop_zero->gu,flatMap_cons->jf,flatten_cons->im,getD_eq_getElem?_getD->fq,getElem?_append_left->gn,getElem?_append_right->iq,getElem?_cons_zero->ij,getElem?_drop->li,getElem?_eq_getElem->fm,getElem?_eq_none->kb,getElem?_eq_some_iff->gh,getElem?_map->lr,getElem_of_mem->m8,length_append->f5,length_cons->gm,length_drop->jk,length_map->ft,length_nil->ji,length_replicate->lm,length_set->qu,length_take->il,map_append->nq,map_cons->i6,map_nil->qy,mem_append->ir,mem_map->jt,mem_singleton->ic,nil_append->gl,range'->rf,range'_succ->qi,replicate->gc,replicate_succ->jg,set_cons_succ->ma,set_cons_zero->lj,take_append->pj,take_append_drop->je,take_append_of_le_length->ke,take_of_length_le->io,take_succ_cons->m6,take_zero->ou
open _root_.List.cons renaming injEq->o6
open _root_.Nat renaming add_mul->jv,add_zero->js,beq->fy,beq_refl->jc,eq_of_beq_eq_true->fl,le_refl->fp,log2->ko,log2_self_le->qk,mod_eq_of_lt->nv,mul_one->qq,not_lt_zero->ny,one_mul->n8,pow_le_pow_right->mb,reduceAdd->fx,reduceSub->i7,zero_add->i8,zero_le->iw
open Go.Op renaming equal->rp,equalIn->ld
open _root_.Option renaming bind_some->fg
open _root_.Option.some renaming injEq->ff
open _root_.Prod.mk renaming injEq->fo
open Go.Proofs.Ytkfnjbfnkpameaa.T renaming bool->sr,cells->jh,flatL->r7,ids->mw,idsL->ju,int->fi,one->np,str->pn
open Go.Proofs.Ytkfnjbfnkpameaa.TS renaming set_ne->m7,set_same->mv
open Go.Proofs.Ytkfnjbfnkpameaa.VR renaming ofInt->pe
open Go.Value renaming bool->ss,int->jm,okWide->r8
open Go.World renaming cell?->sl
set_option maxRecDepth 100000
open Go Go.RowKit
theorem zab {α β:Type} {x:Option α} {f:α->Option β} {v:β} (h:x.bind f=some v):∃ a,x=some a/\f a=some v:=by
  cases x with
  |none=>cases h
  |some a=>exact ⟨a,rfl,h⟩
def gx {α:Type} [Inhabited α] (l:List α) (i:Int):α:=l.getD i.toNat default
theorem zag {α:Type} [Inhabited α] {l:List α} {i:Int} (h:0<=i/\i<(l.length:Int)):l[i.toNat]?=some (gx l i):=yis (by omega)
def bx (b:ByteArray) (i:Int):UInt8:=b.data.toList.getD i.toNat 0
theorem zv2 {b:ByteArray} {i:Int} (h:0<=i/\i<(b.size:Int)):b.data.toList[i.toNat]?=some (bx b i):=by
  have : i.toNat < b.data.toList.length := by have e : b.data.toList.length = b.size := by simp
                                              omega
  unfold bx;rw [fq,fm this];rfl
def vecC {α:Type} (f:α->T) (l:List α):List T:=(l.map f).flatMap jh
theorem zaw {α:Type} {f:α->T} {l l2:List α}:vecC f (l++l2)=vecC f l++vecC f l2:=by
  unfold vecC;rw [nq,List.flatMap_append]
theorem zdu {α:Type} {f:α->T} {x:α}:vecC f [x]=(f x).cells:=by
  unfold vecC;simp
theorem zby {α:Type} {f:α->T} {e:Nat} (h:∀ x,(f x).cells.length=e):∀ (l:List α),(vecC f l).length=l.length*e
  |[]=>by simp [vecC]
  |x :: l=>by
    have ih:=zby h l;unfold vecC at ih ⊢;rw [i6,jf,f5,h,ih,gm,jv];omega
theorem zde {α:Type} {f:α->T} {e n:Nat} {l:List α} (h:∀ x,(f x).cells.length=e) (hl:l.length=n):(vecC f l).take (n*e)=(l.map f).flatMap jh:=by
  have:=zby h l;rw [io (by rw [this,hl];exact fp _)];rfl
theorem zdz {k:iy} {l:List Int}:(l.map (fi k)).flatMap jh=l.map (fi k):=zlw fun _=>rfl
theorem zb9 {l:List Bool}:(l.map sr).flatMap jh=l.map sr:=zlw fun _=>rfl
theorem zdy {l:List ByteArray}:(l.map pn).flatMap jh=l.map pn:=zlw fun _=>rfl
theorem zd1 {k:iy} {l:List Int}:(l.map (fi k)).all np=true:=by simp [np]
theorem zcb {l:List Bool}:(l.map sr).all np=true:=by simp [np]
theorem zd0 {l:List ByteArray}:(l.map pn).all np=true:=by simp [np]
section
variable {GL:List (Nat×List Value)} {A A' A2:Nat->Prop} {β β' β2:Bx} {S S' S2:TS} {s s' s2:CS} {P:gt} {Γ:Env} {N:Nat} {h h' h2:Nat->T} {Q R:Exit->(Nat->T)->TS->Prop}
theorem Left.trimN {fr fr':Fr} {keep:List Nat} {bs bs2 extra:List Box} {n:Nat} (hn:bs.length<=n) (hT:TRel GL A β (stL bs) s) (k:Left GL A β s N fr' s' h' (stL (bs2++extra))) (hl:bs2.length=n) (hb:zea n bs2=true) (hk:zgb keep n h'):Left GL A β s N fr' s' (zjg keep h') (stL bs2):=by
  obtain ⟨A',β',k1,k2,k3⟩:=k;have hat:∀ b,b<n->bcut β' n b=β' b:=fun b hb=>zAc hb
  have hsub:∀ b l,bcut β' n b=some l->β' b=some l:=fun b l h=>by
    unfold bcut at h;split at h
    . exact h
    . simp at h
  have hkp:zrw (stL (bs2++extra)) (stL bs2):=by
    refine ⟨by simp [stL],fun b=>?_⟩;by_cases hbl:b<bs2.length
    . refine .inr ⟨hbl,?_,?_⟩
      . show bs2.getD b .gone=(bs2++extra).getD b .gone;rw [fq,fq,gn hbl]
      . show zh8 bs2.length ((bs2++extra).getD b .gone)=true;rw [fq,gn hbl,<- fq,hl];exact zn5 hb
    . left;show bs2.getD b .gone=.gone;rw [fq,kb (by omega)];rfl
  have hcut:=k2.cut hkp;have hnn:(stL bs2).n=n:=hl;rw [hnn] at hcut;refine ⟨A',bcut β' n,⟨k1.nt,k1.le,fun t=>?_⟩,hcut,k3.can,k3.sub,k3.new,fun f hf=>?_,k3.keep,fun b l hb'=>?_,k3.rd,k3.wr⟩
  . by_cases ht:t∈keep
    . rw [zkp ht];exact (k1.slot t).ids hat (zph hk t ht)
    . rw [show zjg keep h' t=.junk from zAd ht];exact .junk _
  . obtain ⟨b,hb'⟩:=hf;exact k3.own f ⟨b,hb'.imp (fun ⟨u,N,h⟩=>⟨u,N,hsub _ _ h⟩) fun h=>hsub _ _ h⟩
  . obtain ⟨l',c1,c2⟩:=k3.bx b l hb'
    have:b<bs.length:=by
      by_cases hh:b<bs.length
      . exact hh
      . rw [hT.next b (by show bs.length<=b;omega)] at hb';simp at hb'
    exact ⟨l',by rw [hat b (by omega)];exact c1,c2⟩
theorem TW.cutN {a:Code} (keep:List Nat) (n:Nat) {bs:List Box} (hn:bs.length<=n) (R:(Nat->T)->List Box->Prop) (hR:TW P Γ GL N a h (stL bs) (onT (fun h' S'=>Ends keep n R h' S') Q)) (hk:∀ h bs2,R h bs2->Q .normal h (stL bs2)):TW P Γ GL N a h (stL bs) Q:=by
  intro A β fr s hF hT;obtain ⟨e,fr1,s1,h1,h',S',hleft,hq⟩:=hR A β fr s hF hT
  cases e with
  |normal =>
    obtain ⟨bs',rfl,hl,hbi,hki,hq⟩:=hq;exact ⟨_,fr1,s1,h1,_,_,Left.trimN (fr:=fr) (keep:=keep) (bs2:=bs'.take n) (extra:=bs'.drop n) hn hT (by rw [je];exact hleft) (by rw [il];omega) hbi hki,hk _ _ hq⟩
  |_=>exact ⟨_,fr1,s1,h1,h',S',hleft,hq⟩
theorem TW.unz {c:Code} (b:Nat) {zz:Bool} {M:Nat} {l:List T} (hS:S.box b=.cells zz M l) (k:TW P Γ GL N c h (S.set b (.cells false M l)) Q):TW P Γ GL N c h S Q:=by
  intro A β fr s hF hT
  have hb:∀ b' z N l',(S.set b (.cells false M l)).box b'=.cells z N l'->∃ z0,S.box b'=.cells z0 N l'/\(z=true->z0=true):=fun b' z N l' h=>by
    by_cases hi:b'=b
    . subst hi;rw [mv] at h;cases h;exact ⟨zz,hS,fun h=>by cases h⟩
    . rw [m7 _ _ hi] at h;exact ⟨z,h,id⟩
  refine k A β fr s hF ⟨hT.inr,hT.inv,hT.alt,hT.dis,hT.inj,hT.next,fun b' z N l' h=>?_,fun b' l' h=>?_,hT.glob⟩
  . obtain ⟨z0,h0,hz⟩:=hb b' z N l' h;obtain ⟨h1,h2⟩:=hT.cells b' z0 N l' h0;refine ⟨h1,?_⟩;rcases h2 with ⟨q1,q2,q3⟩|⟨f,u,cs,rest,q1,q2,q3⟩
    . exact .inl ⟨q1,q2,by cases z with|false=>rfl|true=>rw [hz rfl] at q3;exact q3⟩
    . exact .inr ⟨f,u,cs,rest,q1,fun h=>q2 (hz h),q3⟩
  . by_cases hi:b'=b
    . subst hi;rw [mv] at h;cases h
    . rw [m7 _ _ hi] at h;exact hT.maps b' l' h
theorem TW.slot {c:Code} (t:Nat) {v v':T} (ht:h t=v) (hv:∀ A β (g:Nat->Fam) w,VT A β g v w->VT A β g v' w) (k:TW P Γ GL N c (tupd h t v') S Q):TW P Γ GL N c h S Q:=by
  intro A β fr s hF hT
  have hF':FrOk A β (zaa s.obj) N (tupd h t v') fr:=⟨hF.nt,hF.le,fun u=>by
    by_cases hu:u=t
    . subst hu;rw [zhs];have:=hF.slot u;rw [ht] at this;exact hv _ _ _ _ this
    . rw [zl0 _ _ _ _ hu];exact hF.slot u⟩
  exact k A β fr s hF' hT
theorem TW.lst0 {c:Code} (t e:Nat) (he:0<e) (ht:h t=.lst e []) (k1:TW P Γ GL N c (tupd h t .nils) S Q) (k2:TW P Γ GL N c (tupd h t (.emp e)) S Q):TW P Γ GL N c h S Q:=by
  intro A β fr s hF hT;have hs:=hF.slot t;rw [ht] at hs;rcases VT.lst_emp he hs with q|q
  . refine k1 A β fr s ⟨hF.nt,hF.le,fun u=>?_⟩ hT;by_cases hu:u=t
    . subst hu;rw [zhs];exact q
    . rw [zl0 _ _ _ _ hu];exact hF.slot u
  . refine k2 A β fr s ⟨hF.nt,hF.le,fun u=>?_⟩ hT;by_cases hu:u=t
    . subst hu;rw [zhs];exact q
    . rw [zl0 _ _ _ _ hu];exact hF.slot u
theorem TW.nilL {c:Code} (t e:Nat) (ht:h t=.nils) (k:TW P Γ GL N c (tupd h t (.lst e [])) S Q):TW P Γ GL N c h S Q:=by
  intro A β fr s hF hT;have hv:=hF.slot t;rw [ht] at hv
  have hF':FrOk A β (zaa s.obj) N (tupd h t (.lst e [])) fr:=⟨hF.nt,hF.le,fun u=>by
    by_cases hu:u=t
    . subst hu;rw [zhs];generalize fr.get u=w at hv;cases hv;exact .lnil
    . rw [zl0 _ _ _ _ hu];exact hF.slot u⟩
  exact k A β fr s hF' hT
mutual
theorem z8w {n m:Nat} (hnm:n<=m):∀ {t:T},t.ids n=true->t.ids m=true
  |.agg l,h=>zgc hnm (l:=l) h
  |.tup l,h=>zgc hnm (l:=l) h
  |.lst e l,h=>zgc hnm (l:=l) h
  |.cp l,h=>zgc hnm (l:=l) h
  |.ptr b o N,h=>by simp only [mw] at h ⊢;exact zad.2 (by have:=zad.1 h;omega)
  |.arr b e o l c N,h=>by simp only [mw] at h ⊢;exact zad.2 (by have:=zad.1 h;omega)
  |.mp b,h=>by simp only [mw] at h ⊢;exact zad.2 (by have:=zad.1 h;omega)
  |.fn f a c,h=>by
    simp only [mw,fk] at h ⊢;exact ⟨zgc hnm h.1,zgc hnm h.2⟩
  |.int _ _,_=>rfl
  |.bool _,_=>rfl
  |.str _,_=>rfl
  |.nils,_=>rfl
  |.nilp,_=>rfl
  |.nilm,_=>rfl
  |.nilf,_=>rfl
  |.junk,_=>rfl
  |.emp _,_=>rfl
theorem zgc {n m:Nat} (hnm:n<=m):∀ {l:List T},ju n l=true->ju m l=true
  |[],_=>rfl
  |t :: l,h=>by
    simp only [ju,fk] at h ⊢;exact ⟨z8w hnm h.1,zgc hnm h.2⟩
end
mutual
theorem zic {ρ:Nat->Nat}:∀ {t:T},t.ids 0=true->t.ren ρ=t
  |.agg l,h=>by rw [T.ren,zdc (l:=l) h]
  |.tup l,h=>by rw [T.ren,zdc (l:=l) h]
  |.lst e l,h=>by rw [T.ren,zdc (l:=l) h]
  |.cp l,h=>by rw [T.ren,zdc (l:=l) h]
  |.ptr b o N,h=>by simp [mw,Nat.blt] at h
  |.arr b e o l c N,h=>by simp [mw,Nat.blt] at h
  |.mp b,h=>by simp [mw,Nat.blt] at h
  |.fn f a c,h=>by
    simp only [mw,fk] at h;rw [T.ren,zdc (l:=a) h.1,zdc (l:=c) h.2]
  |.int _ _,_=>rfl
  |.bool _,_=>rfl
  |.str _,_=>rfl
  |.nils,_=>rfl
  |.nilp,_=>rfl
  |.nilm,_=>rfl
  |.nilf,_=>rfl
  |.junk,_=>rfl
  |.emp _,_=>rfl
theorem zdc {ρ:Nat->Nat}:∀ {l:List T},ju 0 l=true->T.renL ρ l=l
  |[],_=>rfl
  |t :: l,h=>by
    simp only [ju,fk] at h;rw [T.renL,zic h.1,zdc h.2]
end
theorem zrw.one {z:Bool} {M:Nat} {cs:List T} (h:ju 1 cs=true):zrw (stL [.cells z M cs]) (stL [.cells z M cs]):=by
  refine ⟨fp _,fun b=>?_⟩
  cases b with
  |zero=>exact .inr ⟨by show 0<1;omega,rfl,h⟩
  |succ b=>exact .inl rfl
theorem Call.fresh {f:FuncId} {args:List T} {e n c M:Nat} {z:Bool} {M2:Nat} {cs:List T} (k:Call P Γ GL f args ts0 (.arr 0 e 0 n c M) (stL [.cells z M2 cs])) (ha:ju 0 args=true) (hb:ju 0 cs=true) (bs:List Box):Call P Γ GL f args (stL bs) (.arr bs.length e 0 n c M) (stL (bs++[.cells z M2 cs])):=by
  have:=Call.frame (ρ:=fun i=>bs.length+i) (S:=stL bs) (S':=stL (bs++[.cells z M2 cs])) k ha (by rfl) ⟨iw _,fun b _=>rfl,fun i hi=>absurd hi (by show ¬ i<0;omega),fun i _ hi=>by show bs.length<=bs.length+i;omega,fun i hi=>by have:i<1:=hi;show bs.length+i<(bs++[_]).length;rw [f5];simp;omega,by show bs.length<=(bs++[_]).length;simp,fun i j _ _ h=>by have:bs.length+i=bs.length+j:=h;omega,fun i hi=>absurd hi (by show ¬ i<0;omega),fun i hi=>?_,fun b hb=>?_⟩
  . rw [zdc ha] at this;exact this
  . have:i<1:=hi;have:i=0:=by omega
    subst this;constructor
    . show (bs++[Box.cells z M2 cs]).getD (bs.length+0) .gone=.cells z M2 (T.renL _ cs);rw [zdc hb,js,fq,iq (fp _)];simp
    . show ju 1 cs=true
      exact z8z fun t ht=>by
        have:=yfm hb t ht;exact z8w (iw _) this
  . show (bs++[Box.cells z M2 cs]).getD b .gone=bs.getD b .gone;by_cases hlt:b<bs.length
    . rw [fq,fq,gn hlt]
    . by_cases h2:b=bs.length
      . exact absurd (h2 ▸ rfl:bs.length+0=b) (hb 0 (by show 0<1;omega))
      . rw [fq,fq,kb (by rw [f5];simp;omega),kb (by omega)]
end
def mset {K V:Type} [DecidableEq K] (k:K) (v:V):List (K×V)->List (K×V)
  |[]=>[(k,v)]
  |p :: l=>if k=p.1 then (k,v) :: l else p :: mset k v l
def mget {K V:Type} [DecidableEq K] (k:K):List (K×V)->Option V
  |[]=>none
  |p :: l=>if k=p.1 then some p.2 else mget k l
theorem keyI {kk:iy} {a b:Int}:zrz (.int kk a) (.int kk b)=some (decide (a=b)):=by
  show (bif fy (ikN kk) (ikN kk) then some (a == b) else none)=_;rw [jc,cond_true];by_cases h:a=b<;>simp [h]
theorem keyS {a b:ByteArray}:zrz (.str a) (.str b)=some (decide (a=b)):=by
  show some (a.data.toList == b.data.toList)=_;by_cases h:a=b
  . subst h;simp
  . have:(a.data.toList == b.data.toList)=false:=by simpa using fun hh=>h (ByteArray.ext hh)
    rw [this,zAb h]
theorem zzs {K V:Type} [DecidableEq K] {kf:K->T} {f:V->T} (hk:∀ a b,zrz (kf a) (kf b)=some (decide (a=b))) (k:K) (v:V):∀ l:List (K×V),tSet (kf k) (f v) (l.map fun p=>(kf p.1,f p.2))=some ((mset k v l).map fun p=>(kf p.1,f p.2))
  |[]=>rfl
  |p :: l=>by
    rw [i6,tSet,hk];unfold mset;by_cases h:k=p.1
    . rw [zAa h,zAc h,i6]
    . rw [zAb h,zAd h,i6];simp only [zzs hk k v l]
theorem zzt {K V:Type} [DecidableEq K] {kf:K->T} {f:V->T} (hk:∀ a b,zrz (kf a) (kf b)=some (decide (a=b))) (k:K):∀ l:List (K×V),tGet (kf k) (l.map fun p=>(kf p.1,f p.2))=some ((mget k l).map f)
  |[]=>rfl
  |p :: l=>by
    rw [i6,tGet,hk];unfold mget;by_cases h:k=p.1
    . rw [zAa h,zAc h];rfl
    . rw [zAb h,zAd h];exact zzt hk k l
theorem zcx {kk:iy} {V:Type} {f:V->T} {k:Int} {v:V} {l:List (Int×V)}:tSet (.int kk k) (f v) (l.map fun p=>(.int kk p.1,f p.2))=some ((mset k v l).map fun p=>(.int kk p.1,f p.2)):=zzs (kf:=fi kk) (fun _ _=>keyI) k v l
theorem zcz {kk:iy} {V:Type} {f:V->T} {k:Int} {l:List (Int×V)}:tGet (.int kk k) (l.map fun p=>(.int kk p.1,f p.2))=some ((mget k l).map f):=zzt (kf:=fi kk) (fun _ _=>keyI) k l
theorem zcw {V:Type} {f:V->T} {k:ByteArray} {v:V} {l:List (ByteArray×V)}:tSet (.str k) (f v) (l.map fun p=>(.str p.1,f p.2))=some ((mset k v l).map fun p=>(.str p.1,f p.2)):=zzs (kf:=pn) (fun _ _=>keyS) k v l
theorem zcy {V:Type} {f:V->T} {k:ByteArray} {l:List (ByteArray×V)}:tGet (.str k) (l.map fun p=>(.str p.1,f p.2))=some ((mget k l).map f):=zzt (kf:=pn) (fun _ _=>keyS) k l
theorem zeh {V:Type} {f:V->T} {d:V} {o:Option V}:z3u false (f d) (o.map f)=f (o.getD d):=by cases o<;>rfl
theorem zeg {V:Type} {f:V->T} {d:V} {o:Option V}:z3u true (f d) (o.map f)=.tup [f (o.getD d),.bool o.isSome]:=by cases o<;>rfl
theorem zns:type_of% (fe (fe (fe (@zax) (fe (@kg) (@Bool.and_true))) (fe (@yac) (fe (@gd) (@and_self)))) (fe (fe (@and_true) (fe (@true_and) (@m6.{0}))) (fe (fe (@ou.{0}) (@gm.{0})) (fe (@ji.{0}) (@i8))))):=fe (fe (fe (@zax) (fe (@kg) (@Bool.and_true))) (fe (@yac) (fe (@gd) (@and_self)))) (fe (fe (@and_true) (fe (@true_and) (@m6.{0}))) (fe (fe (@ou.{0}) (@gm.{0})) (fe (@ji.{0}) (@i8))))
theorem zbn:type_of% (fe (fe (fe (@mw.eq_1) (fe (@mw.eq_2) (@mw.eq_3))) (fe (@mw.eq_4) (fe (@mw.eq_5) (@mw.eq_6)))) (fe (fe (@mw.eq_7) (fe (@mw.eq_8) (@mw.eq_9))) (fe (@ju.eq_1) (fe (@ju.eq_2) (@zbf))))):=fe (fe (fe (@mw.eq_1) (fe (@mw.eq_2) (@mw.eq_3))) (fe (@mw.eq_4) (fe (@mw.eq_5) (@mw.eq_6)))) (fe (fe (@mw.eq_7) (fe (@mw.eq_8) (@mw.eq_9))) (fe (@ju.eq_1) (fe (@ju.eq_2) (@zbf))))
theorem zc3:type_of% (fe (fe (@zea.eq_1) (fe (@zea.eq_2) (@zh8.eq_1))) (fe (fe (@zh8.eq_2) (@zh8.eq_3)) (fe (@zgb.eq_1) (@zgb.eq_2)))):=fe (fe (@zea.eq_1) (fe (@zea.eq_2) (@zh8.eq_1))) (fe (fe (@zh8.eq_2) (@zh8.eq_3)) (fe (@zgb.eq_1) (@zgb.eq_2)))
theorem scA:type_of% (fe (@lj.{0}) (@ma.{0})):=fe (@lj.{0}) (@ma.{0})
theorem scB:type_of% (fe (fe (@st_n) (fe (@gm.{0}) (@ji.{0}))) (fe (@gw.{0}) (fe (@gl.{0}) (@i8)))):=fe (fe (@st_n) (fe (@gm.{0}) (@ji.{0}))) (fe (@gw.{0}) (fe (@gl.{0}) (@i8)))
theorem gsA:type_of% (fe (fe (@zbf) (fe (@nq.{0,0}) (@i6.{0,0}))) (fe (@qy.{0,0}) (fe (@jv) (@n8)))):=fe (fe (@zbf) (fe (@nq.{0,0}) (@i6.{0,0}))) (fe (@qy.{0,0}) (fe (@jv) (@n8)))
structure Ar (n:Nat) where
  l:List Int
  h:l.length=n
deriving DecidableEq
instance {n:Nat}:Inhabited (Ar n):=⟨⟨gc n 0,lm⟩⟩
theorem Ar.ext' {n:Nat} {a b:Ar n} (h:a.l=b.l):a=b:=by cases a;cases b;cases h;rfl
theorem Ar.eq_iff {n:Nat} {a b:Ar n}:a=b↔a.l=b.l:=⟨fun h=>by rw [h],Ar.ext'⟩
def mkAr (n:Nat) (l:List Int):Ar n:=⟨(l++gc n 0).take n,by rw [il,f5,lm];omega⟩
def zA (n:Nat):Ar n:=⟨gc n 0,lm⟩
def zVs (n:Nat) (k:iy):List Value:=gc n (.int k 0)
theorem you {n:Nat} {k:iy}:zgx (zVs n k)=some ((zA n).l.map (fi k)):=by
  show zgx (gc n (.int k 0))=some ((gc n 0).map (fi k))
  induction n with
  |zero=>rfl
  |succ n ih=>rw [jg,jg,i6];unfold zgx;rw [ih];rfl
def eAr (k:iy) {n:Nat} (a:Ar n):T:=.agg (a.l.map (fi k))
theorem yf8 {k:iy} {n:Nat} (a:Ar n):(eAr k a).cells=a.l.map (fi k):=f7 rfl rfl
theorem zgi {k:iy} {n:Nat} (a:Ar n):(eAr k a).cells.length=n:=by rw [yf8,ft,a.h]
theorem zrp {k:iy}:∀ (l:List Int),(l.map (fi k)).all np=true
  |[]=>rfl
  |x :: l=>by rw [i6,jr,zrp l];rfl
theorem zgz {k:iy} {m:Nat}:∀ (l:List Int),ju m (l.map (fi k))=true
  |[]=>rfl
  |x :: l=>by simp only [i6,ju,mw,zgz l,gd]
theorem yku {k:iy} {m n:Nat} (a:Ar n):(eAr k a).ids m=true:=zgz a.l
theorem zvo {k:iy}:∀ (l:List Int),r7 (l.map (fi k))=true
  |[]=>rfl
  |x :: l=>by simp only [i6,r7,T.flat,zvo l,gd]
section
variable {P:gt}
theorem z3v (len:Nat) (β:Type) (b:β) (f:Nat->β->Sem (ForInStep β)):(forIn [0:len] b f:Sem β)=forIn (rf 0 len) b f:=by
  rw [Std.Legacy.Range.forIn_eq_forIn_range'];simp [Std.Legacy.Range.size]
theorem zjn {k:iy}:∀ (l:List Int),zgy (l.map (fi k))=some (l.map (jm k))
  |[]=>rfl
  |x :: l=>by rw [i6];unfold zgy;rw [zjn l];rfl
theorem ynx {σ:Type} (s0 s1:σ) (x y:List Int) (len:Nat) (hx:x.length=len) (hy:y.length=len) (f:Nat->σ->Sem (ForInStep σ))
    (hf:∀ i (hi:i<len),zbb P (f i s0)=some (if x[i]=y[i] then .yield s0 else .done s1)) :
    ∀ (m k:Nat),k+m=len->zbb P (forIn (rf k m) s0 f:Sem σ)=some (if x.drop k=y.drop k then s0 else s1):=by
  intro m
  induction m with
  |zero=>intro k hk;simp [i4 (show x.length<=k by omega),i4 (show y.length<=k by omega)];rfl
  |succ m ih =>
    intro k hk;have hdx:=kv (show k<x.length by omega);have hdy:=kv (show k<y.length by omega);rw [qi,List.forIn_cons,zak,hf k (by omega)];by_cases hxy:x[k]'(by omega)=y[k]'(by omega)
    . rw [zAc hxy];show zbb P (forIn (rf (k+1) m) s0 f)=_;rw [ih (k+1) (by omega),hdx,hdy];simp only [hxy,o6,true_and]
    . rw [zAd hxy,hdx,hdy];simp only [hxy,o6,false_and,if_false];rfl
theorem yp7 (d:Nat) {e:gi} (k k':iy) (a b:Int) (he:P.underlying e=some (.int k)):zbb P (ld (d+1) e (.int k' a) (.int k' b))=some (a == b):=by
  unfold ld;rw [zak,zcp he];cases k'<;>rfl
theorem yp8 (d:Nat) {t e len:Nat} {k:iy} {i:TypeInfo} (ht:P.underlying t=some (.array len e)) (he:P.underlying e=some (.int k)) (hi:P.info? e=some i) (hsz:i.size=1) (x y:List Int) (hx:x.length=len) (hy:y.length=len) :
    zbb P (ld (d+2) t (.agg (x.map (jm k)).toArray) (.agg (y.map (jm k)).toArray))=some (x == y):=by
  have hpart:∀ (l:List Int) (j:Nat) (hk:j<l.length),zbb P (part e (l.map (jm k)).toArray j)=some (.int k l[j]):=by
    intro l j hk
    have hagg:zbb P (isAgg e)=some false:=by
      unfold isAgg;rw [zak,zcp he];rfl
    have hp:∀ v:Value,zbb P (pure v:Sem Value)=some v:=fun v=>rfl;simp [part,zak,hagg,hk,hp]
  have hq:∀ a b:Int,zbb P (ld (d+1) e (.int k a) (.int k b))=some (a == b):=fun a b=>yp7 d k k a b he;show zbb P (ld ((d+1)+1) _ _ _)=_;generalize d+1=d' at *
  have hsize:zbb P (sizeOf e)=some 1:=by
    unfold sizeOf typeInfo;rw [zak,zak];show ((zbb P (match P.info? e with|some i=>pure i|none=>_)).bind _)=_;rw [hi];show zbb P (pure i.size)=_;rw [hsz];rfl
  have hpu:∀ {α:Type} (v:α),zbb P (pure v:Sem α)=some v:=fun v=>rfl;simp only [ld,zak,zcp ht,fg,hsize,z3v,qq];rw [ynx (P:=P) (none,()) (some false,()) x y len hx hy _ ?_ len 0 (by omega)]
  . by_cases hxy:x=y
    . subst hxy;simp [hpu]
    . simp [hxy,hpu]
  . intro j hk;simp only [zak,hpart x j (by omega),hpart y j (by omega),fg,hq];by_cases hxy:x[j]'(by omega)=y[j]'(by omega)
    . have e1:((x[j]'(by omega)) == (y[j]'(by omega)))=true:=by rw [hxy];simp
      rw [e1,zAc hxy];simp [hpu]
    . have e1:((x[j]'(by omega)) == (y[j]'(by omega)))=false:=by
        simp only [beq_eq_false_iff_ne,ne_eq];exact hxy
      rw [e1,zAd hxy];simp [hpu]
variable {Γ:Env} {S:TS} {t:gi} {x y:gb}
theorem ycm {n e:Nat} {k:iy} (ht:P.underlying t=some (.array n e)) (he:P.underlying e=some (.int k)) (hi:(P.info? e).map (·.size)=some 1) (hq:P.eqGuardType P.depth t=false) (a b:Ar n) :
    tBin P Γ S t .eql x y (eAr k a) (eAr k b)=some (.bool (decide (a=b)))/\tBin P Γ S t .neq x y (eAr k a) (eAr k b)=some (.bool (!(decide (a=b)))):=by
  obtain ⟨i,hi1,hi2⟩:∃ i,P.info? e=some i/\i.size=1:=by
    cases h:P.info? e with
    |none=>rw [h] at hi;simp at hi
    |some i=>rw [h] at hi;exact ⟨i,rfl,by simpa using hi⟩
  have h:=yp8 (P:=P) 9998 ht he hi1 hi2 a.l b.l a.h b.h
  have hg:∀ op,op=.eql\/op=.neq->zbb P (eqGuard op t x y (.agg (a.l.map (jm k)).toArray) (.agg (b.l.map (jm k)).toArray))=some ():=by
    intro op hop;rcases hop with rfl|rfl
    . show zbb P (if !(P.eqGuardType P.depth t) then pure () else _)=some ();rw [hq];rfl
    . show zbb P (if !(P.eqGuardType P.depth t) then pure () else _)=some ();rw [hq];rfl
  have hd:(a.l == b.l)=decide (a=b):=by
    by_cases hab:a=b
    . rw [hab];simp
    . rw [zAb hab];have:a.l≠b.l:=fun hh=>hab (Ar.ext' hh);simp [this]
  have he:zbb P (binOp .eql t (.agg (a.l.map (jm k)).toArray) (.agg (b.l.map (jm k)).toArray))=some (.bool (decide (a=b))):=by
    show zbb P (do pure (ss (<- rp t (.agg (a.l.map (jm k)).toArray) (.agg (b.l.map (jm k)).toArray))):Sem Value)=_;have h2:zbb P (rp t (.agg (a.l.map (jm k)).toArray) (.agg (b.l.map (jm k)).toArray))=some (a.l == b.l):=h;rw [zak,h2,hd];rfl
  have hn:zbb P (binOp .neq t (.agg (a.l.map (jm k)).toArray) (.agg (b.l.map (jm k)).toArray))=some (.bool (!(decide (a=b)))):=by
    show zbb P (do pure (ss (!(<- rp t (.agg (a.l.map (jm k)).toArray) (.agg (b.l.map (jm k)).toArray)))):Sem Value)=_;have h2:zbb P (rp t (.agg (a.l.map (jm k)).toArray) (.agg (b.l.map (jm k)).toArray))=some (a.l == b.l):=h;rw [zak,h2,hd];rfl
  constructor
  . show zo4 P t .eql x y _ _=_;unfold zo4;rw [zjn,zjn];simp only;rw [zak,hg _ (.inl rfl)];show (match zbb P (binOp .eql t (.agg (a.l.map (jm k)).toArray) (.agg (b.l.map (jm k)).toArray)) with|some (.bool r)=>some (sr r)|_=>none)=_;rw [he]
  . show zo4 P t .neq x y _ _=_;unfold zo4;rw [zjn,zjn];simp only;rw [zak,hg _ (.inr rfl)];show (match zbb P (binOp .neq t (.agg (a.l.map (jm k)).toArray) (.agg (b.l.map (jm k)).toArray)) with|some (.bool r)=>some (sr r)|_=>none)=_;rw [hn]
end
section
variable {GL:List (Nat×List Value)} {A A' A2:Nat->Prop} {β β' β2:Bx} {S S' S2:TS} {s s' s2:CS} {P:gt} {Γ:Env} {N:Nat} {h h' h2:Nat->T} {Q R:Exit->(Nat->T)->TS->Prop}
theorem VL.setAt {g:Nat->Fam} {t:T} {v:Value}:∀ {l:List T} {vs:List Value} {i:Nat},VL A β g l vs->vs[i]?=some v->VT A β g t v->VL A β g (l.set i t) vs
  |[],_,_,.nil,_,_=>.nil
  |x :: l,y :: vs,0,.cons k1 k2,hv,ht=>by
    simp only [ij,ff] at hv;subst hv;exact .cons ht k2
  |x :: l,y :: vs,i+1,.cons k1 k2,hv,ht=>.cons k1 (VL.setAt k2 (by simpa using hv) ht)
theorem TW.freezeC {c:Code} (c0 i:Nat) {b e len M N0:Nat} {z z0:Bool} {l l0:List T} (L:List T) (hS0:S.box c0=.cells z0 N0 l0) (hi:l0[i]?=some (.arr b e 0 len len M)) (hne:c0≠b) (hS:S.box b=.cells z M l) (he:0<e) (hoff:0+len*e<=M) (hL:(l.drop 0).take (len*e)=L.flatMap jh) (hs:∀ t,t∈L->t.cells.length=e) (hlen:L.length=len)
    (k:TW P Γ GL N c h ((S.set c0 (.cells z0 N0 (l0.set i (.lst e L)))).set b .gone) Q):TW P Γ GL N c h S Q:=by
  intro A β fr s hF hT;obtain ⟨A',β',k1,k2,k3⟩:=hT.freeze hS;obtain ⟨n0,hc⟩:=hT.cells c0 z0 N0 l0 hS0;have hS0':(S.set b .gone).box c0=.cells z0 N0 l0:=by rw [m7 _ _ hne];exact hS0
  obtain ⟨n1,hc'⟩:=k1.cells c0 z0 N0 l0 hS0';have hi0:i<l0.length:=(gh.1 hi).1
  have hnew:zpo A' β' (zaa s.obj) c0 z0 N0 (l0.set i (.lst e L)):=by
    rcases hc with ⟨_,q,_⟩|⟨f,u,cs,rest,a1,a2,a3,a4,a5⟩
    . omega
    . rcases hc' with ⟨_,q,_⟩|⟨f',u',cs',rest',b1,b2,b3,b4,b5⟩
      . omega
      . obtain ⟨l',c1,c2⟩:=k2.bx c0 _ a1;rw [b1] at c1;cases c1;simp only [Loc.le] at c2;rcases c2 with ⟨rfl,rfl,_⟩|c2
        . rw [a3] at b3;simp only [Fam.mk.injEq,o6,fo] at b3;obtain ⟨_,⟨⟨_,rfl⟩,rfl⟩,_⟩:=b3;obtain ⟨v,v1,v2⟩:=a4.get hi;refine ⟨by rw [qu];exact n0,.inr ⟨f,u,cs,rest,b1,a2,a3,b4.setAt v1 (k3 v2 he hoff hL hs hlen (fp _)),a5⟩⟩
        . omega
  have hT':TRel GL A' β' ((S.set c0 (.cells z0 N0 (l0.set i (.lst e L)))).set b .gone) s:=by
    refine ⟨k1.inr,k1.inv,k1.alt,k1.dis,k1.inj,k1.next,fun b' z N' l' hb'=>?_,fun b' l' hb'=>?_,k1.glob⟩
    . by_cases e1:b'=b
      . subst e1;rw [mv] at hb';cases hb'
      . rw [m7 _ _ e1] at hb';by_cases e2:b'=c0
        . subst e2;rw [mv] at hb';cases hb';exact hnew
        . rw [m7 _ _ e2] at hb';exact k1.cells b' z N' l' (by rw [m7 _ _ e1];exact hb')
    . by_cases e1:b'=b
      . subst e1;rw [mv] at hb';cases hb'
      . rw [m7 _ _ e1] at hb';by_cases e2:b'=c0
        . subst e2;rw [mv] at hb';cases hb'
        . rw [m7 _ _ e2] at hb';exact k1.maps b' l' (by rw [m7 _ _ e1];exact hb')
  have hF':FrOk A' β' (zaa s.obj) N h fr:=⟨hF.nt,hF.le,fun u=>k2.vt hT (hF.slot u)⟩;refine (k A' β' fr s hF' hT').mono ?_;rintro e2 fr2 s2 ⟨h2,S2,l2,q2⟩;exact ⟨h2,S2,Left.trans (h':=h) (fr':=fr) hT.le k2 l2,q2⟩
theorem TW.nilC {c:Code} (c0 i e:Nat) {N0:Nat} {z0:Bool} {l0:List T} (hS0:S.box c0=.cells z0 N0 l0) (hi:l0[i]?=some .nils) (k:TW P Γ GL N c h (S.set c0 (.cells z0 N0 (l0.set i (.lst e [])))) Q):TW P Γ GL N c h S Q:=by
  intro A β fr s hF hT;obtain ⟨n0,hc⟩:=hT.cells c0 z0 N0 l0 hS0;have hi0:i<l0.length:=(gh.1 hi).1
  have hnew:zpo A β (zaa s.obj) c0 z0 N0 (l0.set i (.lst e [])):=by
    rcases hc with ⟨_,q,_⟩|⟨f,u,cs,rest,a1,a2,a3,a4,a5⟩
    . omega
    . obtain ⟨v,v1,v2⟩:=a4.get hi;refine ⟨by rw [qu];exact n0,.inr ⟨f,u,cs,rest,a1,a2,a3,a4.setAt v1 ?_,a5⟩⟩;cases v2;exact .lnil
  have hT':TRel GL A β (S.set c0 (.cells z0 N0 (l0.set i (.lst e [])))) s:=by
    refine ⟨hT.inr,hT.inv,hT.alt,hT.dis,hT.inj,hT.next,fun b' z N' l' hb'=>?_,fun b' l' hb'=>?_,hT.glob⟩
    . by_cases e2:b'=c0
      . subst e2;rw [mv] at hb';cases hb';exact hnew
      . rw [m7 _ _ e2] at hb';exact hT.cells b' z N' l' hb'
    . by_cases e2:b'=c0
      . subst e2;rw [mv] at hb';cases hb'
      . rw [m7 _ _ e2] at hb';exact hT.maps b' l' hb'
  exact k A β fr s hF hT'
theorem TW.vecC {c:Code} (c0 i e:Nat) {N0:Nat} {z0:Bool} {l0:List T} (hS0:S.box c0=.cells z0 N0 l0) (hi:l0[i]?=some .nils) (h0:c0<S.n) (k:TW P Γ GL N c h ((S.set c0 (.cells z0 N0 (l0.set i (.arr S.n e 0 0 0 0)))).add (.cells false 0 [])) Q):TW P Γ GL N c h S Q:=by
  intro A β fr s hF hT;have hb0:β S.n=none:=hT.next _ (fp _)
  have hle:Bx.le β (bnew β S.n .nil):=zv4 hb0;have hse:bnew β S.n .nil S.n=some .nil:=zAc rfl;have hne:∀ b',b'≠S.n->bnew β S.n .nil b'=β b':=fun b' hb'=>zAd hb'
  have hown:∀ f,Own (bnew β S.n .nil) f->Own β f:=fun f ⟨b',hb'⟩=>by
    by_cases hi:b'=S.n
    . subst hi;rw [hse] at hb';rcases hb' with ⟨u,N,hb'⟩|hb'<;>simp at hb'
    . rw [hne b' hi] at hb';exact ⟨b',hb'⟩
  have hst:Stp A β s A (bnew β S.n .nil) s:=⟨Can.refl _,fun _ h=>h,fun _ h=>.inl h,fun f hf=>.inl (hown f hf),fun _ _ _=>rfl,hle,fun _ h=>.inl h,fun _ h=>.inl h⟩;obtain ⟨n0,hc⟩:=hT.cells c0 z0 N0 l0 hS0;have hi0:i<l0.length:=(gh.1 hi).1
  have hnew:zpo A (bnew β S.n .nil) (zaa s.obj) c0 z0 N0 (l0.set i (.arr S.n e 0 0 0 0)):=by
    rcases hc with ⟨_,q,_⟩|⟨f,u,cs,rest,a1,a2,a3,a4,a5⟩
    . omega
    . obtain ⟨v,v1,v2⟩:=a4.get hi;have a4':=a4.mono (A':=A) (β':=bnew β S.n .nil) (g':=zaa s.obj) (fun _ h=>h) (fun _ _=>rfl) hle;refine ⟨by rw [qu];exact n0,.inr ⟨f,u,cs,rest,by rw [hne c0 (by omega)];exact a1,a2,a3,a4'.setAt v1 ?_,a5⟩⟩;cases v2;exact .arrNil hse
  have hT':TRel GL A (bnew β S.n .nil) ((S.set c0 (.cells z0 N0 (l0.set i (.arr S.n e 0 0 0 0)))).add (.cells false 0 [])) s:=by
    refine ⟨hT.inr,hT.inv,hT.alt,fun f hf=>hT.dis f (hown f hf),fun b1 b2 l1 l2 f h1 h2 h3 h4=>?_,fun b' hb'=>?_,fun b' z N l hb'=>?_,fun b' l hb'=>?_,hT.glob⟩
    . by_cases e1:b1=S.n
      . subst e1;rw [hse] at h1;cases h1;simp [Loc.fam] at h3
      . by_cases e2:b2=S.n
        . subst e2;rw [hse] at h2;cases h2;simp [Loc.fam] at h4
        . rw [hne b1 e1] at h1;rw [hne b2 e2] at h2;exact hT.inj b1 b2 l1 l2 f h1 h2 h3 h4
    . have:S.n+1<=b':=hb';rw [hne b' (by omega)];exact hT.next b' (by omega)
    . by_cases hi:b'=S.n
      . subst hi;have hq:=(TS.add_same (S.set c0 (.cells z0 N0 (l0.set i (.arr S.n e 0 0 0 0)))) (.cells false 0 [])).symm.trans hb';cases hq;exact ⟨rfl,.inl ⟨hse,rfl,rfl⟩⟩
      . rw [TS.add_ne _ _ (show b'≠(S.set c0 (.cells z0 N0 (l0.set i (.arr S.n e 0 0 0 0)))).n from hi)] at hb';by_cases e2:b'=c0
        . subst e2;rw [mv] at hb';cases hb';exact hnew
        . rw [m7 _ _ e2] at hb';exact (hT.cells b' z N l hb').mono (fun _ h=>h) (fun _ _=>rfl) hle (hne b' hi) fun _ _ _ _=>rfl
    . by_cases hi:b'=S.n
      . subst hi;have hq:=(TS.add_same (S.set c0 (.cells z0 N0 (l0.set i (.arr S.n e 0 0 0 0)))) (.cells false 0 [])).symm.trans hb';cases hq
      . rw [TS.add_ne _ _ (show b'≠(S.set c0 (.cells z0 N0 (l0.set i (.arr S.n e 0 0 0 0)))).n from hi)] at hb';by_cases e2:b'=c0
        . subst e2;rw [mv] at hb';cases hb'
        . rw [m7 _ _ e2] at hb';exact (hT.maps b' l hb').mono (fun _ h=>h) (fun _ _=>rfl) hle (hne b' hi) fun _ _=>rfl
  have hF':FrOk A (bnew β S.n .nil) (zaa s.obj) N h fr:=⟨hF.nt,hF.le,fun u=>hst.vt hT (hF.slot u)⟩;refine (k A _ fr s hF' hT').mono ?_;rintro e2 fr2 s2 ⟨h2,S2,l2,q2⟩;exact ⟨h2,S2,Left.trans (h':=h) (fr':=fr) hT.le hst l2,q2⟩
end
theorem zgv {α:Type} (f:α->T) (l:List α):(l.map f).flatMap jh=vecC f l:=rfl
theorem ze2 {α:Type} {f:α->T} (h:∀ x,(f x).cells.all np=true):∀ (l:List α),(vecC f l).all np=true
  |[]=>rfl
  |x :: l=>by
    have ih:=ze2 h l;unfold vecC at ih ⊢;rw [i6,jf,List.all_append,h,ih];rfl
def Le1:List T->List T->Prop
  |[],[]=>True
  |t :: l,t' :: l'=>(t=t'\/(t=.nils/\∃ e,t'=.lst e []))/\Le1 l l'
  |_,_=>False
def Le2:List T->List T->Prop
  |[],[]=>True
  |t :: l,t' :: l'=>(t=t'\/(t=.nils/\∃ e,t'=.lst e [])\/∃ m m',t=.agg m/\t'=.agg m'/\Le1 m m')/\Le2 l l'
  |_,_=>False
theorem Le1.vl {A:Nat->Prop} {β:Bx} {g:Nat->Fam}:∀ {l l':List T} {vs:List Value},Le1 l l'->VL A β g l vs->VL A β g l' vs
  |[],[],_,_,.nil=>.nil
  |t :: l,t' :: l',_,h,.cons k1 k2=>by
    obtain ⟨h1,h2⟩:=h;rcases h1 with rfl|⟨rfl,e,rfl⟩
    . exact .cons k1 (Le1.vl h2 k2)
    . cases k1;exact .cons .lnil (Le1.vl h2 k2)
theorem Le2.vl {A:Nat->Prop} {β:Bx} {g:Nat->Fam}:∀ {l l':List T} {vs:List Value},Le2 l l'->VL A β g l vs->VL A β g l' vs
  |[],[],_,_,.nil=>.nil
  |t :: l,t' :: l',_,h,.cons k1 k2=>by
    obtain ⟨h1,h2⟩:=h;rcases h1 with rfl|⟨rfl,e,rfl⟩|⟨m,m',rfl,rfl,h3⟩
    . exact .cons k1 (Le2.vl h2 k2)
    . cases k1;exact .cons .lnil (Le2.vl h2 k2)
    . cases k1 with|agg k=>exact .cons (.agg (h3.vl k)) (Le2.vl h2 k2)
theorem yqf {n:Nat} {i:Int} (h:0<=i/\i<=(n:Int)):zca n n (some (.int .i64 i)) none none=some (i.toNat,n,n):=by
  obtain ⟨k,rfl⟩:∃ k:Nat,i=(k:Int):=⟨i.toNat,by omega⟩;exact yi9 rfl (by omega) (fp _)
theorem Ar.len {n:Nat} (a:Ar n):a.l.length=n:=a.h
def Ar.set {n:Nat} (a:Ar n) (i v:Int):Ar n:=⟨a.l.set i.toNat v,by rw [qu,a.h]⟩
theorem yf7 {k:iy} {n:Nat} (a:Ar n):eAr k a=.agg (a.l.map (fi k)):=f7 rfl rfl
theorem arIx {n:Nat} (a:Ar n) {i:Int} (h:0<=i/\i<(n:Int)):a.l[i.toNat]?=some (gx a.l i):=zag (by rw [a.h];exact h)
theorem arSpl {k:iy} {n:Nat} (a b:Ar n):spl (a.l.map (fi k)) 0 (b.l.map (fi k))=b.l.map (fi k):=by
  unfold spl;rw [ou,gl,i4 (by rw [ft,ft,a.h,b.h];omega),h9]
theorem yqk {k:iy} {n:Nat} (a:Ar n) {i:Int} (v:Int) (h:0<=i/\i<(n:Int)):spl (a.l.map (fi k)) i.toNat [fi k v]=(a.set i v).l.map (fi k):=by
  exact ym5 (f:=fi k) (v:=v) (L:=a.l) (i:=i.toNat) (by rw [a.h];omega)
def u8o (z:Int):UInt8:=UInt8.ofNat z.toNat
def strL (l:List Int):ByteArray:=⟨(l.map u8o).toArray⟩
def bytL (s:ByteArray):List Int:=s.data.toList.map fun c=>(c.toNat:Int)
theorem yab (s:ByteArray):(bytL s).length=s.size:=by unfold bytL;rw [ft];exact Array.length_toList
theorem z4q (s:ByteArray):zh7 s=(bytL s).map (fi .u8):=by
  unfold zh7 bytL;rw [List.map_map];rfl
theorem z1h:∀ (l:List Int),zv8 (l.map (fi .u8))=some (l.map u8o)
  |[]=>rfl
  |x :: l=>by rw [i6];unfold zv8;rw [z1h l];rfl
theorem z67 (l:List Int):(⟨(l.map u8o).toArray⟩:ByteArray)=strL l:=f7 rfl rfl
theorem z1c {k:iy}:∀ (l:List Int),(l.map (fi k)).flatMap jh=l.map (fi k)
  |[]=>rfl
  |x :: l=>by rw [i6,jf,z1c l];rfl
theorem ymx {k:iy} {l:List Int} {n:Nat} (h:l.length=n):(l.map (fi k)).take n=l.map (fi k):=io (by rw [ft,h];omega)
theorem ycd {k:iy} {l:List Int}:(l.map (fi k)).take l.length=l.map (fi k):=ymx rfl
def cpA {n:Nat} (a:Ar n) (s:ByteArray):Ar n:=⟨(bytL s).take (min s.size n)++a.l.drop (min s.size n),by rw [f5,il,jk,yab,a.h];omega⟩
theorem ymi {n:Nat} (a:Ar n) (s:ByteArray):spl (a.l.map (fi .u8)) 0 (((bytL s).map (fi .u8)).take (min s.size n))=(cpA a s).l.map (fi .u8):=by
  unfold spl cpA;rw [ou,gl,il,ft,yab,nq,List.map_take,List.map_drop,i8];congr 2;omega
theorem yg1 {k:iy} {l:List Int} {n:Nat}:((l.map (fi k)).take n).all np=true:=by rw [<- List.map_take];exact zrp _
theorem ymh {n:Nat}:zca n n none none none=some (0,n,n):=ybq (fp _)
theorem yh7 {d k:Nat}:natO d (some (.int .i64 (k:Int)))=some k:=by
  rfl
theorem yqg {n:Nat} {j:Int} (h:0<=j/\j<=(n:Int)):zca n n none (some (.int .i64 j)) none=some (0,j.toNat,n):=by
  obtain ⟨b,rfl⟩:∃ k:Nat,j=(k:Int):=⟨j.toNat,by omega⟩;rw [zot,yh7];show (bif Nat.ble 0 b && Nat.ble b n && Nat.ble n n && _ then some (0,b,n) else none)=_;rw [zhr (by omega),zhr (by omega),zhr (fp _)];rfl
theorem sub0 {n:Nat}:n - 0=n:=Nat.sub_zero n
inductive CK where
  |int (k:iy)
  |bool
  |str
def ckV:CK->Value->Bool
  |.int k,.int k' _=>decide (k=k')
  |.bool,.bool _=>true
  |.str,.string _=>true
  |_,_=>false
def zet:List CK->List Value->Bool
  |[],[]=>true
  |c :: l,v :: m=>ckV c v && zet l m
  |_,_=>false
def znz:Value->Value->Bool
  |.int _ a,.int _ b=>a == b
  |.bool a,.bool b=>a == b
  |.string a,.string b=>a == b
  |_,_=>false
def eqVs:List Value->List Value->Bool
  |v :: l,w :: m=>znz v w && eqVs l m
  |_,_=>true
theorem zqq:∀ {sh:List CK} {xs:List Value},zet sh xs=true->xs.length=sh.length
  |[],[],_=>rfl
  |_ :: _,_ :: _,h=>by
    simp only [zet,fk] at h;rw [gm,gm,zqq h.2]
  |[],_ :: _,h=>by simp [zet] at h
  |_ :: _,[],h=>by simp [zet] at h
theorem zoo {c:CK}:∀ {xs:List Value},zet [c] xs=true->∃ v,xs=[v]/\ckV c v=true
  |[],h=>by simp [zet] at h
  |[v],h=>⟨v,rfl,by simpa [zet] using h⟩
  |_ :: _ :: _,h=>by simp [zet] at h
theorem zrm:∀ {a b:List CK} {xs:List Value},zet (a++b) xs=true->zet a (xs.take a.length)=true/\zet b (xs.drop a.length)=true
  |[],b,xs,h=>⟨by simp [zet],by simpa using h⟩
  |c :: a,b,[],h=>by simp [zet] at h
  |c :: a,b,v :: xs,h=>by
    simp only [gw,zet,fk] at h;obtain ⟨h1,h2⟩:=zrm h.2;exact ⟨by simp only [gm,m6,zet,h.1,h1,gd],by simpa using h2⟩
theorem zmi:∀ {a b c d:List Value},a.length=c.length->eqVs (a++b) (c++d)=(eqVs a c && eqVs b d)
  |[],b,[],d,_=>rfl
  |x :: a,b,y :: c,d,h=>by
    simp only [gw,eqVs,zmi (Nat.succ.inj h),Bool.and_assoc]
  |[],_,_ :: _,_,h=>by simp at h
  |_ :: _,_,[],_,h=>by simp at h
def valA (a:Bool) (xs:List Value):Value:=if a then .agg xs.toArray else xs.headD undef
def zo9 (P:gt) (g:gi->Option (Bool×List CK)):List Field->Nat->Option (List CK)
  |[],_=>some []
  |f :: l,off=>match g f.type,(P.info? f.type).map (fun i=>i.size) with
    | some (_, sh), some sz => if f.name ≠ "_" /\ f.offset = off /\ sz = sh.length then
        (match zo9 P g l (off+sh.length) with|some r=>some (sh++r)|none=>none) else none
    |_,_=>none
def zhe (P:gt):Nat->gi->Option (Bool×List CK)
  |0,_=>none
  |d+1,t=>match P.underlying t with
    |some (.int k)=>some (false,[.int k])
    |some .bool=>some (false,[.bool])
    |some .string=>some (false,[.str])
    |some (.struct fs)=>if P.stoodInHeld t=true then none else (match zo9 P (zhe P d) fs.toList 0 with|some l=>some (true,l)|none=>none)
    |some (.array n e)=>(match zhe P d e,(P.info? e).map (fun i=>i.size) with
      |some (_,sh),some sz=>if sz=sh.length then some (true,(gc n sh).flatten) else none
      |_,_=>none)
    |_=>none
section
variable {P:gt}
theorem z05 {α σ:Type} (s0 s1:σ) (f:α->σ->Sem (ForInStep σ)) (b:α->Bool):∀ (l:List α),(∀ x,x∈l->zbb P (f x s0)=some (if b x then .yield s0 else .done s1))->zbb P (forIn l s0 f:Sem σ)=some (if l.all b then s0 else s1)
  |[],_=>by simp;rfl
  |x :: l,h=>by
    rw [List.forIn_cons,zak,h x (.head _)]
    cases hb:b x with
    |true =>
      show zbb P (forIn l s0 f)=_;rw [z05 s0 s1 f b l fun y hy=>h y (.tail _ hy),jr,hb,kg]
    |false =>
      rw [jr,hb,Bool.false_and];rfl
theorem yix {d:Nat} {t:gi} {a:Bool} {sh:List CK} (h:zhe P d t=some (a,sh)):zbb P (isAgg t)=some a:=by
  cases d with
  |zero=>simp [zhe] at h
  |succ d =>
    unfold zhe at h;unfold isAgg;rw [zak]
    cases hu:P.underlying t with
    |none=>rw [hu] at h;simp at h
    |some u =>
      rw [hu] at h;rw [zcp hu]
      cases u with
      |int k=>simp at h;rw [<- h.1];rfl
      |bool=>simp at h;rw [<- h.1];rfl
      |string=>simp at h;rw [<- h.1];rfl
      |struct fs =>
        simp only at h;split at h
        . simp at h
        . split at h
          . simp at h;rw [<- h.1];rfl
          . simp at h
      |array n e =>
        simp only at h;split at h
        . split at h
          . simp at h;rw [<- h.1];rfl
          . simp at h
        . simp at h
      |_=>simp at h
theorem yc3 {d:Nat} {t:gi} {sh:List CK} (h:zhe P d t=some (false,sh)):∃ c,sh=[c]:=by
  cases d with
  |zero=>simp [zhe] at h
  |succ d =>
    unfold zhe at h;split at h
    . simp at h;exact ⟨_,h.symm⟩
    . simp at h;exact ⟨_,h.symm⟩
    . simp at h;exact ⟨_,h.symm⟩
    . split at h
      . simp at h
      . split at h<;>simp at h
    . split at h
      . split at h<;>simp at h
      . simp at h
    . simp at h
theorem z31 {t:gi} {sz:Nat} (h:(P.info? t).map (fun i=>i.size)=some sz):zbb P (sizeOf t)=some sz:=by
  cases hi:P.info? t with
  |none=>rw [hi] at h;simp at h
  |some i =>
    rw [hi] at h;unfold sizeOf typeInfo;rw [zak,zak];show ((zbb P (match P.info? t with|some i=>pure i|none=>_)).bind _)=_;rw [hi];simp at h;show zbb P (pure i.size)=_;rw [h];rfl
theorem zti {d : Nat} {t : gi} {a : Bool} {sh : List CK} (h : zhe P d t = some (a, sh)) (hs : (P.info? t).map (fun i => i.size) = some sh.length) (xs : List Value) (off : Nat) (hl : off + sh.length <= xs.length) :
    zbb P (part t xs.toArray off)=some (valA a ((xs.drop off).take sh.length)):=by
  unfold part;rw [zak,yix h]
  cases a with
  |true =>
    show zbb P (do let n <- sizeOf t;pure (Value.agg (xs.toArray.extract off (off+n))))=_;rw [zak,z31 hs];show some (Value.agg (xs.toArray.extract off (off+sh.length)))=_;rw [List.extract_toArray,List.extract_eq_take_drop,Nat.add_sub_cancel_left];rfl
  |false =>
    obtain ⟨c,rfl⟩:=yc3 h;simp only [gm,ji,i8] at hl ⊢;show zbb P (match xs.toArray[off]? with|some v=>pure v|none=>_)=_;rw [List.getElem?_toArray,fm (by omega),kv (by omega)];rfl
theorem zy0 {g:gi->Option (Bool×List CK)}:∀ {l:List Field} {off:Nat} {sh:List CK} {xs ys:List Value},zo9 P g l off=some sh->xs.length=off+sh.length->ys.length=off+sh.length ->
    (l.all fun f=>match g f.type with|some (_,s)=>eqVs ((xs.drop f.offset).take s.length) ((ys.drop f.offset).take s.length)|none=>true)=eqVs (xs.drop off) (ys.drop off)
  |[],off,sh,xs,ys,h,hx,hy=>by
    simp only [zo9,ff] at h;subst h;rw [i4 (by simp at hx;omega),i4 (by simp at hy;omega)];rfl
  |f :: l,off,sh,xs,ys,h,hx,hy=>by
    unfold zo9 at h;split at h
    . rename_i a s sz hg hs;split at h
      . rename_i hc;split at h
        . rename_i r hr;cases h;rw [f5] at hx hy;rw [jr,zy0 hr (by omega) (by omega),hg];simp only;rw [hc.2.1]
          have hr2:eqVs (xs.drop off) (ys.drop off)=(eqVs ((xs.drop off).take s.length) ((ys.drop off).take s.length) && eqVs (xs.drop (off+s.length)) (ys.drop (off+s.length))):=by
            conv=>lhs;rw [<- je s.length (xs.drop off),<- je s.length (ys.drop off)]
            rw [zmi (by rw [il,il,jk,jk];omega),l6,l6]
          rw [hr2]
        . cases h
      . cases h
    . cases h
theorem zo8 {g : gi -> Option (Bool × List CK)} : ∀ {l : List Field} {off : Nat} {sh : List CK} {xs : List Value}, zo9 P g l off = some sh -> xs.length = off + sh.length -> zet sh (xs.drop off) = true -> ∀ f, f ∈ l -> ∃ a s, g f.type = some (a, s) /\ (P.info? f.type).map (fun i => i.size) = some s.length /\ f.name ≠ "_" /\ f.offset + s.length <= xs.length /\ zet s ((xs.drop f.offset).take s.length) = true
  |[],off,sh,xs,h,hx,hf,f,hm=>by cases hm
  |f' :: l,off,sh,xs,h,hx,hf,f,hm=>by
    unfold zo9 at h;split at h
    . rename_i a s sz hg hs;split at h
      . rename_i hc;split at h
        . rename_i r hr;cases h;rw [f5] at hx;obtain ⟨f1,f2⟩:=zrm hf;rw [l6] at f2
          cases hm with
          |head=>exact ⟨a,s,hg,by rw [hs,hc.2.2],hc.1,by rw [hc.2.1];omega,by rw [hc.2.1];exact f1⟩
          |tail _ hm=>exact zo8 hr (by omega) f2 f hm
        . cases h
      . cases h
    . cases h
theorem z9i {s:List CK}:∀ (n k:Nat) {xs ys:List Value},xs.length=(k+n)*s.length->ys.length=(k+n)*s.length ->
    ((rf k n).all fun i=>eqVs ((xs.drop (i*s.length)).take s.length) ((ys.drop (i*s.length)).take s.length))=eqVs (xs.drop (k*s.length)) (ys.drop (k*s.length))
  |0,k,xs,ys,hx,hy=>by
    rw [i4 (by rw [hx];exact fp _),i4 (by rw [hy];exact fp _)];rfl
  |n+1,k,xs,ys,hx,hy=>by
    have e:(k+(n+1))*s.length=k*s.length+s.length+n*s.length:=by rw [jv,jv,n8];omega
    rw [qi,jr,z9i n (k+1) (by rw [hx];congr 1;omega) (by rw [hy];congr 1;omega)];rw [jv,n8,<- l6,<- l6,<- zmi (by rw [il,il,jk,jk];omega),je,je]
theorem z01 {s:List CK}:∀ {n:Nat} {xs:List Value},zet (gc n s).flatten xs=true->∀ i,i<n->zet s ((xs.drop (i*s.length)).take s.length)=true
  |0,xs,h,i,hi=>by omega
  |n+1,xs,h,i,hi=>by
    rw [jg,im] at h;obtain ⟨h1,h2⟩:=zrm h
    cases i with
    |zero=>simpa using h1
    |succ i =>
      have:=z01 h2 i (by omega);rw [l6] at this;rw [jv,n8,Nat.add_comm];exact this
theorem yl4:∀ (d:Nat) {t:gi} {a:Bool} {sh:List CK},zhe P d t=some (a,sh)->∀ {xs ys:List Value},zet sh xs=true->zet sh ys=true->zbb P (ld d t (valA a xs) (valA a ys))=some (eqVs xs ys):=by
  intro d
  induction d with
  |zero=>intro t a sh h;simp [zhe] at h
  |succ d ih =>
    intro t a sh h xs ys hx hy;have hpu:∀ {α:Type} (v:α),zbb P (pure v:Sem α)=some v:=fun v=>rfl;unfold zhe at h;unfold ld;rw [zak]
    cases hu:P.underlying t with
    |none=>rw [hu] at h;simp at h
    |some u =>
      rw [hu] at h;rw [zcp hu]
      cases u with
      |int k =>
        simp at h;obtain ⟨rfl,rfl⟩:=h;obtain ⟨v,rfl,h1⟩:=zoo hx;obtain ⟨w,rfl,h2⟩:=zoo hy
        . cases v<;>simp [ckV] at h1;cases w<;>simp [ckV] at h2;subst h1 h2
          simp [valA,eqVs,znz,hpu]
      |bool =>
        simp at h;obtain ⟨rfl,rfl⟩:=h;obtain ⟨v,rfl,h1⟩:=zoo hx;obtain ⟨w,rfl,h2⟩:=zoo hy
        . cases v<;>simp [ckV] at h1;cases w<;>simp [ckV] at h2
          simp [valA,eqVs,znz,hpu]
      |string =>
        simp at h;obtain ⟨rfl,rfl⟩:=h;obtain ⟨v,rfl,h1⟩:=zoo hx;obtain ⟨w,rfl,h2⟩:=zoo hy
        . cases v<;>simp [ckV] at h1;cases w<;>simp [ckV] at h2
          simp [valA,eqVs,znz,hpu]
      |struct fs =>
        simp only at h;split at h
        . simp at h
        . rename_i hst;split at h
          . rename_i l hl;simp at h;obtain ⟨rfl,rfl⟩:=h;have lx:=zqq hx;have ly:=zqq hy;have hall:=zy0 hl (by rw [lx];omega) (by rw [ly];omega);rw [gu,gu] at hall;simp only [valA,if_true,fg];rw [zak];show (((some P:Option gt)).bind _)=_;simp only [fg,zAd hst];rw [zak];show ((zbb P (forIn fs _ _)).bind _)=_;rw [<- Array.forIn_toList];rw [z05 (P:=P) (none,()) (some false,()) _ (fun f=>match zhe P d f.type with|some (_,s)=>eqVs ((xs.drop f.offset).take s.length) ((ys.drop f.offset).take s.length)|none=>true) fs.toList ?_]
            . rw [hall];cases eqVs xs ys<;>rfl
            . intro f hf;obtain ⟨a,s,g1,g2,g3,g4,g5⟩:=zo8 hl (by rw [lx];omega) (by rw [gu];exact hx) f hf;obtain ⟨a',s',g1',_,_,g4',g5'⟩:=zo8 hl (by rw [ly];omega) (by rw [gu];exact hy) f hf;rw [g1] at g1';cases g1';rw [zAc g3,zak,zti g1 g2 _ _ g4];simp only [fg];rw [zak,zti g1 g2 _ _ g4'];simp only [fg];rw [zak,ih g1 g5 g5',g1];simp only [fg];have hq:∀ q:Bool,zbb P (if (!q)=true then pure (ForInStep.done (some false,())) else pure (ForInStep.yield (none,())):Sem (ForInStep (Option Bool×Unit)))=some (if q=true then .yield (none,()) else .done (some false,())):=by intro q;cases q<;>rfl
              exact hq _
          . simp at h
      |array n e =>
        simp only at h;split at h
        . rename_i ae se sz hse hsz;split at h
          . rename_i hc;subst hc;simp at h;obtain ⟨rfl,rfl⟩:=h;have lx:=zqq hx;have ly:=zqq hy;have hlen:(gc n se).flatten.length=n*se.length:=by simp
            rw [hlen] at lx ly;simp only [valA,if_true,fg];rw [zak,z31 hsz];simp only [fg,z3v];rw [zak,z05 (P:=P) (none,()) (some false,()) _ (fun i=>eqVs ((xs.drop (i*se.length)).take se.length) ((ys.drop (i*se.length)).take se.length)) (rf 0 n) ?_]
            . rw [z9i n 0 (by rw [lx];congr 1;omega) (by rw [ly];congr 1;omega),Nat.zero_mul,gu,gu];cases eqVs xs ys<;>rfl
            . intro i hi;have hin:i<n:=by have:=List.mem_range'_1.1 hi;omega
              have hle:i*se.length+se.length<=n*se.length:=by
                have:=Nat.mul_le_mul_right se.length (show i+1<=n by omega);rw [jv,n8] at this;exact this
              rw [zak,zti hse hsz _ _ (by omega)];simp only [fg];rw [zak,zti hse hsz _ _ (by omega)];simp only [fg];rw [zak,ih hse (z01 hx i hin) (z01 hy i hin)];simp only [fg];have hq:∀ q:Bool,zbb P (if (!q)=true then pure (ForInStep.done (some false,())) else pure (ForInStep.yield (none,())):Sem (ForInStep (Option Bool×Unit)))=some (if q=true then .yield (none,()) else .done (some false,())):=by intro q;cases q<;>rfl
              exact hq _
          . simp at h
        . simp at h
      |_=>simp at h
variable {Γ:Env} {S:TS} {t:gi} {x y:gb}
theorem zq8 {sh:List CK} {l m:List T} {vs ws:List Value} (ht:zhe P 10000 t=some (true,sh)) (hq:P.eqGuardType P.depth t=false) (hl:zgy l=some vs) (hm:zgy m=some ws) (hx:zet sh vs=true) (hy:zet sh ws=true) {b:Bool} (hb:eqVs vs ws=b) :
    tBin P Γ S t .eql x y (.agg l) (.agg m)=some (.bool b)/\tBin P Γ S t .neq x y (.agg l) (.agg m)=some (.bool (!b)):=by
  have h:zbb P (rp t (.agg vs.toArray) (.agg ws.toArray))=some b:=by rw [<- hb];exact yl4 10000 ht hx hy
  have hg:∀ op,op=.eql\/op=.neq->zbb P (eqGuard op t x y (.agg vs.toArray) (.agg ws.toArray))=some ():=by
    intro op hop;rcases hop with rfl|rfl
    . show zbb P (if !(P.eqGuardType P.depth t) then pure () else _)=some ();rw [hq];rfl
    . show zbb P (if !(P.eqGuardType P.depth t) then pure () else _)=some ();rw [hq];rfl
  have he:zbb P (binOp .eql t (.agg vs.toArray) (.agg ws.toArray))=some (.bool b):=by
    show zbb P (do pure (ss (<- rp t (.agg vs.toArray) (.agg ws.toArray))):Sem Value)=_;rw [zak,h];rfl
  have hn:zbb P (binOp .neq t (.agg vs.toArray) (.agg ws.toArray))=some (.bool (!b)):=by
    show zbb P (do pure (ss (!(<- rp t (.agg vs.toArray) (.agg ws.toArray)))):Sem Value)=_;rw [zak,h];rfl
  constructor
  . show zo4 P t .eql x y _ _=_;unfold zo4;rw [hl,hm];simp only;rw [zak,hg _ (.inl rfl)];show (match zbb P (binOp .eql t (.agg vs.toArray) (.agg ws.toArray)) with|some (.bool r)=>some (sr r)|_=>none)=_;rw [he]
  . show zo4 P t .neq x y _ _=_;unfold zo4;rw [hl,hm];simp only;rw [zak,hg _ (.inr rfl)];show (match zbb P (binOp .neq t (.agg vs.toArray) (.agg ws.toArray)) with|some (.bool r)=>some (sr r)|_=>none)=_;rw [hn]
theorem zl7:∀ {a b:List T} {x y:List Value},zgy a=some x->zgy b=some y->zgy (a++b)=some (x++y)
  |[],b,x,y,h,h2=>by simp only [zgy,ff] at h;subst h;exact h2
  |t :: a,b,x,y,h,h2=>by
    unfold zgy at h;split at h
    . rename_i v r e1 e2;cases h;rw [gw];unfold zgy;rw [e1,zl7 e2 h2];rfl
    . cases h
theorem z33 {k:iy}:∀ {a b:List Int},a.length=b.length->eqVs (a.map (jm k)) (b.map (jm k))=decide (a=b)
  |[],[],_=>rfl
  |x :: a,y :: b,h=>by
    rw [i6,i6,eqVs,z33 (Nat.succ.inj h)];simp only [znz,o6,Bool.decide_and]
    congr 1
  |[],_ :: _,h=>by simp at h
  |_ :: _,[],h=>by simp at h
theorem z06 {k:iy} {n:Nat} (a b:Ar n):eqVs (a.l.map (jm k)) (b.l.map (jm k))=decide (a=b):=by
  rw [z33 (by rw [a.h,b.h])];exact decide_eq_decide.2 (Ar.eq_iff.symm)
theorem z3z {k:iy}:∀ {l:List Int} {r:List CK} {vs:List Value},zet r vs=true->zet (gc l.length (.int k)++r) (l.map (jm k)++vs)=true
  |[],r,vs,h=>h
  |x :: l,r,vs,h=>by
    rw [gm,jg,i6,gw,gw,zet,z3z h];simp [ckV]
end
section
variable {k:iy} {n m:Nat} (a b:Ar n) (r xs:List T)
theorem sgT (h:n<=m):(a.l.map (fi k)++r).take m=a.l.map (fi k)++r.take (m - n):=by
  rw [pj,io (by rw [ft,a.h];exact h),ft,a.h]
theorem sgT1 (h:n<=m):(a.l.map (fi k)).take m=a.l.map (fi k):=io (by rw [ft,a.h];exact h)
theorem sgD (h:n<=m):(a.l.map (fi k)++r).drop m=r.drop (m - n):=by
  rw [mu,i4 (by rw [ft,a.h];exact h),gl,ft,a.h]
theorem sgD1 (h:n<=m):(a.l.map (fi k)).drop m=[]:=i4 (by rw [ft,a.h];exact h)
theorem sgG (h:n<=m):(a.l.map (fi k)++r)[m]?=r[m - n]?:=by
  rw [iq (by rw [ft,a.h];exact h),ft,a.h]
theorem splA:spl (a.l.map (fi k)++r) 0 (b.l.map (fi k)++xs)=b.l.map (fi k)++spl r 0 xs:=by
  unfold spl;rw [ou,ou,gl,gl,gq,i8,i8,f5,ft,b.h,<- l6];congr 3;rw [mu,i4 (by rw [ft,a.h];exact fp _),ft,a.h,Nat.sub_self];rfl
theorem ypa:spl (a.l.map (fi k)++r) 0 (b.l.map (fi k))=b.l.map (fi k)++r:=by
  have:=splA (k:=k) a b r [];rw [h9] at this;rw [this,ym7]
theorem yo9:spl (a.l.map (fi k)) 0 (b.l.map (fi k))=b.l.map (fi k):=arSpl a b
theorem splS (h:n<=m):spl (a.l.map (fi k)++r) m xs=a.l.map (fi k)++spl r (m - n) xs:=by
  unfold spl;rw [sgT a r h,mu,i4 (by rw [ft,a.h];omega),ft,a.h,gl];simp only [gq];congr 4;omega
theorem z5g (v:T) (h:n<=m):(a.l.map (fi k)++r).set m v=a.l.map (fi k)++r.set (m - n) v:=by
  rw [List.set_append,zAd (by rw [ft,a.h];omega),ft,a.h]
end
theorem zo3 {k:iy} {n off:Nat} {L r:List T} (a:Ar n) {i:Int} (h:0<=i/\i<(n:Int)) (hL:L.drop off=a.l.map (fi k)++r:=by first|rfl | (simp (disch:=decide) only [gq,h9,f5,gw,gl,ft,gm,ji,Ar.len,sgD,sgD1,k9,gu,i7,fx,i8];done)):L[off+i.toNat]?=some (fi k (gx a.l i)):=by
  rw [<- li,hL,gn (by rw [ft,a.h];omega),lr,arIx a h];rfl
theorem zrr {k:iy} {n:Nat} {L r:List T} (a:Ar n) {i:Int} (h:0<=i/\i<(n:Int)) (hL:L=a.l.map (fi k)++r:=by first|rfl | (simp (disch:=decide) only [gq,h9,f5,gw,gl,ft,gm,ji,Ar.len,sgD,sgD1,k9,gu,i7,fx,i8];done)):L[i.toNat]?=some (fi k (gx a.l i)):=by
  have:=zo3 (off:=0) (L:=L) a h (by rw [gu];exact hL)
  rwa [i8] at this
theorem setAt {k:iy} {n off:Nat} {L L2 p r:List T} (a:Ar n) {i:Int} (v:Int) (h:0<=i/\i<(n:Int)) (hL:L=p++(a.l.map (fi k)++r):=by first|rfl | (simp (disch:=decide) only [gq,h9,f5,gw,gl,ft,gm,ji,Ar.len,sgD,sgD1,k9,gu,i7,fx,i8];done)) (hp:p.length=off:=by first|rfl | (simp (disch:=decide) only [gq,h9,f5,gw,gl,ft,gm,ji,Ar.len,sgD,sgD1,k9,gu,i7,fx,i8];done)) (h2:L2=p++((a.set i v).l.map (fi k)++r):=by first|rfl | (simp (disch:=decide) only [gq,h9,f5,gw,gl,ft,gm,ji,Ar.len,sgD,sgD1,k9,gu,i7,fx,i8];done)):spl L (off+i.toNat) [fi k v]=L2:=by
  subst hL h2;have hs:=yqk (k:=k) a v h;unfold spl at hs ⊢;have hi:i.toNat+1<=n:=by omega
  rw [<- hs];simp only [gm,ji,i8];rw [pj,io (show p.length<=off+i.toNat by omega),show off+i.toNat - p.length=i.toNat by omega,ke (by rw [ft,a.h];omega)];rw [mu,i4 (show p.length<=off+i.toNat+1 by omega),show off+i.toNat+1 - p.length=i.toNat+1 by omega,gl,qr (by rw [ft,a.h];omega)];simp only [gq]
theorem yc6 {k:iy} {n:Nat} {L L2 r:List T} (a:Ar n) {i:Int} (v:Int) (h:0<=i/\i<(n:Int)) (hL:L=a.l.map (fi k)++r:=by first|rfl | (simp (disch:=decide) only [gq,h9,f5,gw,gl,ft,gm,ji,Ar.len,sgD,sgD1,k9,gu,i7,fx,i8];done)) (h2:L2=(a.set i v).l.map (fi k)++r:=by first|rfl | (simp (disch:=decide) only [gq,h9,f5,gw,gl,ft,gm,ji,Ar.len,sgD,sgD1,k9,gu,i7,fx,i8];done)):spl L i.toNat [fi k v]=L2:=by
  have:=setAt (off:=0) (p:=[]) (L:=L) (L2:=L2) a v h hL rfl h2
  rwa [i8] at this
/-! bits of integers -/
def iAnd (k:iy) (a b:Int):Int:=k.wrap (jb k.bits a &&& jb k.bits b).toNat
def iOr (k:iy) (a b:Int):Int:=k.wrap (jb k.bits a ||| jb k.bits b).toNat
def iXor (k:iy) (a b:Int):Int:=k.wrap (jb k.bits a ^^^ jb k.bits b).toNat
def zh4 (k:iy) (a b:Int):Int:=k.wrap (jb k.bits a &&& ~~~ jb k.bits b).toNat
def iShl (k:iy) (a b:Int):Int:=k.wrap (a*2 ^ (min b.toNat k.bits))
def iShr (k:iy) (a b:Int):Int:=a.fdiv (2 ^ (min b.toNat k.bits))
theorem ykr {k:iy} {a b:Int}:zbv .and k k a b=some (.int k (iAnd k a b)):=yp5
theorem yp0 {k:iy} {a b:Int}:zbv .or k k a b=some (.int k (iOr k a b)):=ib_or
theorem ykq {k:iy} {a b:Int}:zbv .xor k k a b=some (.int k (iXor k a b)):=yp2
theorem yfc {k:iy} {a b:Int}:zbv .andNot k k a b=some (.int k (zh4 k a b)):=by simp [zbv,zh4]
theorem ypz {k k':iy} {a b:Int} (h:0<=b):zbv .shl k k' a b=some (.int k (iShl k a b)):=yp4 h
theorem zyh {k k':iy} {a b:Int} (h:0<=b):zbv .shr k k' a b=some (.int k (iShr k a b)):=yp3 h
theorem zl6 {t:T} {l:List T} {v:Value} {r:List Value} (h:yhm t=some v) (k:zgy l=some r):zgy (t :: l)=some (v :: r):=by
  unfold zgy;rw [h,k]
theorem zqr {c:CK} {v:Value} {r:List CK} {vs:List Value} (h:ckV c v=true) (k:zet r vs=true):zet (c :: r) (v :: vs)=true:=by
  rw [zet,h,k];rfl
theorem z9y (k:iy) (n:Int):ckV (.int k) (.int k n)=true:=by simp [ckV]
theorem z6f {k:iy} {n:Nat} (a:Ar n) {r:List CK} {vs:List Value} (h:zet r vs=true):zet (gc n (.int k)++r) (a.l.map (jm k)++vs)=true:=by
  have:=z3z (k:=k) (l:=a.l) h
  rwa [a.h] at this
theorem z9d {k:iy} {n:Nat} (a:Ar n):zet (gc n (.int k)) (a.l.map (jm k))=true:=by
  have:=z6f (k:=k) a (r:=[]) (vs:=[]) rfl
  rwa [h9,h9] at this
theorem z6i {k:iy} {n:Nat} (a b:Ar n) (x y:List Value):eqVs (a.l.map (jm k)++x) (b.l.map (jm k)++y)=(decide (a=b) && eqVs x y):=by
  rw [zmi (by rw [ft,ft,a.h,b.h]),z06]
theorem ydr {α:Type} {f:α->T} (z:α):∀ n:Nat,rep n (f z).cells=vecC f (gc n z)
  |0=>rfl
  |n+1=>by
    have:=ydr (f:=f) z n;unfold rep vecC at this ⊢;rw [jg,im,this,jg,i6,jf]
theorem yfl {k:iy} {m:Nat} (l:List Int):(T.agg (l.map (fi k))).ids m=true:=zgz l
theorem zjb:∀ (a b:List T),r7 (a++b)=(r7 a && r7 b)
  |[],b=>by simp [r7]
  |t :: a,b=>by rw [gw,r7,r7,zjb a b,Bool.and_assoc]
theorem ygx (l:List T):l++[]=l:=h9 l
theorem z4w (a b c:List T):a++b++c=a++(b++c):=gq a b c
theorem zu7 (a b:List T):(a++b).length=a.length+b.length:=f5
theorem z1g (a b:List T) (p:T->Bool):(a++b).all p=(a.all p && b.all p):=List.all_append
theorem z1q (n:Nat):([]:List T).take n=[]:=List.take_nil
theorem z36 (n:Nat):([]:List T).drop n=[]:=List.drop_nil
def LL:List Nat:=[3,4,5,6,7,8,9,10,11,12,13,14,15,16,17,18,19,20,21,22,23,24,25,26,27,28,29,30,31,32,33,34,35,36,37,38,39,40,41,42,43,44,45,46,47,48,49,50,51,52,53,54,55,56,57,58,59,60,61,62,63,64,65,66,67,68,69,70,71,72,73,74,75,76,77,78,79,80,81,82,83,84,85,86,87,88,89,90,91,92,93,94,95,96,97]
def GG:List Nat:=[]
def EE (ax:Axs):Env:=zh5 Try.prog LL ax
theorem zfp (ax:Axs):zdi Try.prog (EE ax):=yf4 _ _ _
theorem z89:znx Try.prog GG LL=true:=by kernel_rfl
theorem yib:Try.prog.follows .mixedOrders=true:=by kernel_rfl
def aggO:Option (List T)->Option T
  |some l=>some (.agg l)
  |none=>none
theorem fn3 (ax:Axs):(EE ax).fn.at 3=some Try.f3:=by kernel_rfl
theorem fn8 (ax:Axs):(EE ax).fn.at 8=some Try.f8:=by kernel_rfl
theorem fn9 (ax:Axs):(EE ax).fn.at 9=some Try.f9:=by kernel_rfl
theorem fn10 (ax:Axs):(EE ax).fn.at 10=some Try.f10:=by kernel_rfl
theorem fn11 (ax:Axs):(EE ax).fn.at 11=some Try.f11:=by kernel_rfl
theorem fn12 (ax:Axs):(EE ax).fn.at 12=some Try.f12:=by kernel_rfl
theorem fn13 (ax:Axs):(EE ax).fn.at 13=some Try.f13:=by kernel_rfl
theorem fn14 (ax:Axs):(EE ax).fn.at 14=some Try.f14:=by kernel_rfl
theorem fn15 (ax:Axs):(EE ax).fn.at 15=some Try.f15:=by kernel_rfl
theorem fn16 (ax:Axs):(EE ax).fn.at 16=some Try.f16:=by kernel_rfl
theorem fn18 (ax:Axs):(EE ax).fn.at 18=some Try.f18:=by kernel_rfl
theorem fn19 (ax:Axs):(EE ax).fn.at 19=some Try.f19:=by kernel_rfl
theorem fn22 (ax:Axs):(EE ax).fn.at 22=some Try.f22:=by kernel_rfl
theorem fn23 (ax:Axs):(EE ax).fn.at 23=some Try.f23:=by kernel_rfl
theorem fn24 (ax:Axs):(EE ax).fn.at 24=some Try.f24:=by kernel_rfl
theorem fn26 (ax:Axs):(EE ax).fn.at 26=some Try.f26:=by kernel_rfl
theorem fn27 (ax:Axs):(EE ax).fn.at 27=some Try.f27:=by kernel_rfl
theorem fn28 (ax:Axs):(EE ax).fn.at 28=some Try.f28:=by kernel_rfl
theorem fn29 (ax:Axs):(EE ax).fn.at 29=some Try.f29:=by kernel_rfl
theorem fn30 (ax:Axs):(EE ax).fn.at 30=some Try.f30:=by kernel_rfl
theorem fn31 (ax:Axs):(EE ax).fn.at 31=some Try.f31:=by kernel_rfl
theorem fn32 (ax:Axs):(EE ax).fn.at 32=some Try.f32:=by kernel_rfl
theorem fn33 (ax:Axs):(EE ax).fn.at 33=some Try.f33:=by kernel_rfl
theorem fn34 (ax:Axs):(EE ax).fn.at 34=some Try.f34:=by kernel_rfl
theorem fn35 (ax:Axs):(EE ax).fn.at 35=some Try.f35:=by kernel_rfl
theorem fn36 (ax:Axs):(EE ax).fn.at 36=some Try.f36:=by kernel_rfl
theorem fn37 (ax:Axs):(EE ax).fn.at 37=some Try.f37:=by kernel_rfl
theorem fn38 (ax:Axs):(EE ax).fn.at 38=some Try.f38:=by kernel_rfl
theorem fn39 (ax:Axs):(EE ax).fn.at 39=some Try.f39:=by kernel_rfl
theorem fn40 (ax:Axs):(EE ax).fn.at 40=some Try.f40:=by kernel_rfl
theorem fn41 (ax:Axs):(EE ax).fn.at 41=some Try.f41:=by kernel_rfl
theorem fn42 (ax:Axs):(EE ax).fn.at 42=some Try.f42:=by kernel_rfl
theorem fn43 (ax:Axs):(EE ax).fn.at 43=some Try.f43:=by kernel_rfl
theorem fn44 (ax:Axs):(EE ax).fn.at 44=some Try.f44:=by kernel_rfl
theorem fn45 (ax:Axs):(EE ax).fn.at 45=some Try.f45:=by kernel_rfl
theorem fn46 (ax:Axs):(EE ax).fn.at 46=some Try.f46:=by kernel_rfl
theorem fn50 (ax:Axs):(EE ax).fn.at 50=some Try.f50:=by kernel_rfl
theorem fn51 (ax:Axs):(EE ax).fn.at 51=some Try.f51:=by kernel_rfl
theorem fn52 (ax:Axs):(EE ax).fn.at 52=some Try.f52:=by kernel_rfl
theorem fn53 (ax:Axs):(EE ax).fn.at 53=some Try.f53:=by kernel_rfl
theorem fn54 (ax:Axs):(EE ax).fn.at 54=some Try.f54:=by kernel_rfl
theorem fn55 (ax:Axs):(EE ax).fn.at 55=some Try.f55:=by kernel_rfl
theorem fn56 (ax:Axs):(EE ax).fn.at 56=some Try.f56:=by kernel_rfl
theorem fn57 (ax:Axs):(EE ax).fn.at 57=some Try.f57:=by kernel_rfl
theorem fn58 (ax:Axs):(EE ax).fn.at 58=some Try.f58:=by kernel_rfl
theorem fn59 (ax:Axs):(EE ax).fn.at 59=some Try.f59:=by kernel_rfl
theorem fn60 (ax:Axs):(EE ax).fn.at 60=some Try.f60:=by kernel_rfl
theorem fn61 (ax:Axs):(EE ax).fn.at 61=some Try.f61:=by kernel_rfl
theorem fn62 (ax:Axs):(EE ax).fn.at 62=some Try.f62:=by kernel_rfl
theorem fn63 (ax:Axs):(EE ax).fn.at 63=some Try.f63:=by kernel_rfl
theorem fn64 (ax:Axs):(EE ax).fn.at 64=some Try.f64:=by kernel_rfl
theorem fn65 (ax:Axs):(EE ax).fn.at 65=some Try.f65:=by kernel_rfl
theorem fn67 (ax:Axs):(EE ax).fn.at 67=some Try.f67:=by kernel_rfl
theorem fn68 (ax:Axs):(EE ax).fn.at 68=some Try.f68:=by kernel_rfl
theorem fn69 (ax:Axs):(EE ax).fn.at 69=some Try.f69:=by kernel_rfl
theorem fn70 (ax:Axs):(EE ax).fn.at 70=some Try.f70:=by kernel_rfl
theorem fn72 (ax:Axs):(EE ax).fn.at 72=some Try.f72:=by kernel_rfl
theorem fn73 (ax:Axs):(EE ax).fn.at 73=some Try.f73:=by kernel_rfl
theorem fn74 (ax:Axs):(EE ax).fn.at 74=some Try.f74:=by kernel_rfl
theorem fn75 (ax:Axs):(EE ax).fn.at 75=some Try.f75:=by kernel_rfl
theorem fn76 (ax:Axs):(EE ax).fn.at 76=some Try.f76:=by kernel_rfl
theorem fn77 (ax:Axs):(EE ax).fn.at 77=some Try.f77:=by kernel_rfl
theorem fn78 (ax:Axs):(EE ax).fn.at 78=some Try.f78:=by kernel_rfl
theorem fn79 (ax:Axs):(EE ax).fn.at 79=some Try.f79:=by kernel_rfl
theorem fn80 (ax:Axs):(EE ax).fn.at 80=some Try.f80:=by kernel_rfl
theorem fn81 (ax:Axs):(EE ax).fn.at 81=some Try.f81:=by kernel_rfl
theorem fn82 (ax:Axs):(EE ax).fn.at 82=some Try.f82:=by kernel_rfl
theorem fn83 (ax:Axs):(EE ax).fn.at 83=some Try.f83:=by kernel_rfl
theorem fn84 (ax:Axs):(EE ax).fn.at 84=some Try.f84:=by kernel_rfl
theorem fn85 (ax:Axs):(EE ax).fn.at 85=some Try.f85:=by kernel_rfl
theorem fn86 (ax:Axs):(EE ax).fn.at 86=some Try.f86:=by kernel_rfl
theorem fn87 (ax:Axs):(EE ax).fn.at 87=some Try.f87:=by kernel_rfl
theorem fn88 (ax:Axs):(EE ax).fn.at 88=some Try.f88:=by kernel_rfl
theorem fn89 (ax:Axs):(EE ax).fn.at 89=some Try.f89:=by kernel_rfl
theorem fn90 (ax:Axs):(EE ax).fn.at 90=some Try.f90:=by kernel_rfl
theorem fn91 (ax:Axs):(EE ax).fn.at 91=some Try.f91:=by kernel_rfl
theorem fn92 (ax:Axs):(EE ax).fn.at 92=some Try.f92:=by kernel_rfl
theorem fn95 (ax:Axs):(EE ax).fn.at 95=some Try.f95:=by kernel_rfl
theorem fn96 (ax:Axs):(EE ax).fn.at 96=some Try.f96:=by kernel_rfl
theorem ti3 (ax:Axs):(EE ax).ti.at 3=some ⟨.int .i64,1,8,[.int .i64 0]⟩:=by kernel_rfl
theorem ti4 (ax:Axs):(EE ax).ti.at 4=some ⟨.bool,1,1,[.bool false]⟩:=by kernel_rfl
theorem ti5 (ax:Axs):(EE ax).ti.at 5=some ⟨.int .u8,1,1,[.int .u8 0]⟩:=by kernel_rfl
theorem ti9 (ax:Axs):(EE ax).ti.at 9=some ⟨.string,1,16,[.string ⟨#[]⟩]⟩:=by kernel_rfl
theorem ti22 (ax:Axs):(EE ax).ti.at 22=some ⟨.slice 93,1,24,[.slice none 0 0]⟩:=by kernel_rfl
theorem ti23 (ax:Axs):(EE ax).ti.at 23=some ⟨.slice 95,1,24,[.slice none 0 0]⟩:=by kernel_rfl
theorem ti24 (ax:Axs):(EE ax).ti.at 24=some ⟨.slice 98,1,24,[.slice none 0 0]⟩:=by kernel_rfl
theorem yl3 (ax:Axs) (S:TS) (b off N:Nat):zan (EE ax) S 26 0 (.ptr b off N)=bif S.has b N then some (.ptr b (off+0) N) else none:=by kernel_rfl
theorem yl2 (ax:Axs) (S:TS) (b off N:Nat):zan (EE ax) S 26 1 (.ptr b off N)=bif S.has b N then some (.ptr b (off+1) N) else none:=by kernel_rfl
theorem yl1 (ax:Axs) (S:TS) (b off N:Nat):zan (EE ax) S 26 2 (.ptr b off N)=bif S.has b N then some (.ptr b (off+2) N) else none:=by kernel_rfl
def fs26:Array Field:=match Try.prog.underlying 26 with|some (.struct fs)=>fs|_=>#[]
theorem ti26 (ax:Axs):(EE ax).ti.at 26=some ⟨.struct fs26,3,72,[.slice none 0 0,.slice none 0 0,.slice none 0 0]⟩:=by kernel_rfl
theorem ti28 (ax:Axs):(EE ax).ti.at 28=some ⟨.slice 59,1,24,[.slice none 0 0]⟩:=by kernel_rfl
theorem sr28 (ax:Axs):srcT (EE ax) 28=true:=by kernel_rfl
theorem yl0 (ax:Axs) (S:TS) (b off N:Nat):zan (EE ax) S 30 0 (.ptr b off N)=bif S.has b N then some (.ptr b (off+0) N) else none:=by kernel_rfl
theorem yli (ax:Axs) (S:TS) (l:List T):zan (EE ax) S 30 0 (.cp l)=some (.cp (l.drop 0)):=by kernel_rfl
theorem ylz (ax:Axs) (S:TS) (b off N:Nat):zan (EE ax) S 30 1 (.ptr b off N)=bif S.has b N then some (.ptr b (off+1) N) else none:=by kernel_rfl
theorem zqu (ax:Axs) (S:TS) (l:List T):zan (EE ax) S 30 1 (.cp l)=some (.cp (l.drop 1)):=by kernel_rfl
theorem yly (ax:Axs) (S:TS) (b off N:Nat):zan (EE ax) S 30 2 (.ptr b off N)=bif S.has b N then some (.ptr b (off+2) N) else none:=by kernel_rfl
theorem zvq (ax:Axs) (S:TS) (l:List T):zan (EE ax) S 30 2 (.cp l)=some (.cp (l.drop 2)):=by kernel_rfl
def fs30:Array Field:=match Try.prog.underlying 30 with|some (.struct fs)=>fs|_=>#[]
theorem bt30 (ax:Axs) (ρ:gb->T) (parts:List (Nat×gb)):zki (EE ax) ρ 30 parts=aggO (zcc [.int .i64 0,.int .i64 0,.int .i64 0] (zbk (zfu (EE ax) fs30) ρ parts)):=by kernel_rfl
theorem ti30 (ax:Axs):(EE ax).ti.at 30=some ⟨.struct fs30,3,24,[.int .i64 0,.int .i64 0,.int .i64 0]⟩:=by kernel_rfl
theorem ykj (ax:Axs):zfu (EE ax) fs30 0=some (0,1):=by kernel_rfl
theorem yki (ax:Axs):zfu (EE ax) fs30 1=some (1,1):=by kernel_rfl
theorem ykh (ax:Axs):zfu (EE ax) fs30 2=some (2,1):=by kernel_rfl
theorem ti40 (ax:Axs):(EE ax).ti.at 40=some ⟨.slice 30,1,24,[.slice none 0 0]⟩:=by kernel_rfl
theorem sr40 (ax:Axs):srcT (EE ax) 40=true:=by kernel_rfl
theorem tz43 (ax:Axs):(EE ax).ti.at 43=some ⟨.array 10 3,10,80,zVs 10 .i64⟩:=by kernel_rfl
theorem aq43 (ax:Axs) (a b:Ar 10):(∀ (S:TS) (x y:gb),tBin Try.prog (EE ax) S 43 .eql x y (.agg (a.l.map (fi .i64))) (.agg (b.l.map (fi .i64)))=some (.bool (decide (a=b))))/\(∀ (S:TS) (x y:gb),tBin Try.prog (EE ax) S 43 .neq x y (.agg (a.l.map (fi .i64))) (.agg (b.l.map (fi .i64)))=some (.bool (!(decide (a=b))))):=⟨fun _ _ _=>(ycm (e:=3) (by kernel_rfl) (by kernel_rfl) (by kernel_rfl) (by kernel_rfl) a b).1,fun _ _ _=>(ycm (e:=3) (by kernel_rfl) (by kernel_rfl) (by kernel_rfl) (by kernel_rfl) a b).2⟩
theorem bz43 (ax:Axs):∀ (ρ:gb->T),zki (EE ax) ρ 43 []=some (.agg ((zA 10).l.map (fi .i64))):=fun _=>rfl
theorem ti48 (ax:Axs):(EE ax).ti.at 48=some ⟨.slice 3,1,24,[.slice none 0 0]⟩:=by kernel_rfl
theorem sr48 (ax:Axs):srcT (EE ax) 48=true:=by kernel_rfl
def zS56:List Value:=[.int .i64 0,.int .i64 0,.int .i64 0,.int .i64 0,.int .i64 0,.int .i64 0,.int .i64 0,.int .i64 0,.int .i64 0,.int .i64 0,.int .i64 0,.int .i64 0,.int .i64 0,.int .i64 0,.int .i64 0,.int .i64 0,.int .i64 0,.int .i64 0,.int .i64 0,.int .i64 0]
theorem yjm:zgx zS56=some ((zA 10).l.map (fi .i64)++((zA 10).l.map (fi .i64))):=rfl
theorem z6z:zS56.length=20:=rfl
theorem ylx (ax:Axs) (S:TS) (b off N:Nat):zan (EE ax) S 56 0 (.ptr b off N)=bif S.has b N then some (.ptr b (off+0) N) else none:=by kernel_rfl
theorem ylh (ax:Axs) (S:TS) (l:List T):zan (EE ax) S 56 0 (.cp l)=some (.cp (l.drop 0)):=by kernel_rfl
theorem ylw (ax:Axs) (S:TS) (b off N:Nat):zan (EE ax) S 56 1 (.ptr b off N)=bif S.has b N then some (.ptr b (off+10) N) else none:=by kernel_rfl
theorem ylg (ax:Axs) (S:TS) (l:List T):zan (EE ax) S 56 1 (.cp l)=some (.cp (l.drop 10)):=by kernel_rfl
def fs56:Array Field:=match Try.prog.underlying 56 with|some (.struct fs)=>fs|_=>#[]
theorem bt56 (ax:Axs) (ρ:gb->T) (parts:List (Nat×gb)):zki (EE ax) ρ 56 parts=aggO (zcc zS56 (zbk (zfu (EE ax) fs56) ρ parts)):=by kernel_rfl
theorem ti56 (ax:Axs):(EE ax).ti.at 56=some ⟨.struct fs56,20,160,zS56⟩:=by kernel_rfl
theorem ykg (ax:Axs):zfu (EE ax) fs56 0=some (0,10):=by kernel_rfl
theorem ykf (ax:Axs):zfu (EE ax) fs56 1=some (10,10):=by kernel_rfl
theorem ti57 (ax:Axs):(EE ax).ti.at 57=some ⟨.slice 87,1,24,[.slice none 0 0]⟩:=by kernel_rfl
def zS59:List Value:=[.int .i64 0,.int .i64 0,.int .i64 0,.int .i64 0,.int .i64 0,.int .i64 0,.int .i64 0,.int .i64 0,.int .i64 0,.int .i64 0,.int .i64 0,.int .i64 0,.int .i64 0,.int .i64 0,.int .i64 0,.int .i64 0,.int .i64 0,.int .i64 0,.int .i64 0,.int .i64 0,.int .i64 0,.int .i64 0,.slice none 0 0]
theorem yb1:zgx zS59=some (fi .i64 0 :: ((zA 10).l.map (fi .i64)++((zA 10).l.map (fi .i64)++[fi .i64 0,T.nils]))):=rfl
theorem zzk:zS59.length=23:=rfl
theorem ylv (ax:Axs) (S:TS) (b off N:Nat):zan (EE ax) S 59 0 (.ptr b off N)=bif S.has b N then some (.ptr b (off+0) N) else none:=by kernel_rfl
theorem ylf (ax:Axs) (S:TS) (l:List T):zan (EE ax) S 59 0 (.cp l)=some (.cp (l.drop 0)):=by kernel_rfl
theorem ylu (ax:Axs) (S:TS) (b off N:Nat):zan (EE ax) S 59 1 (.ptr b off N)=bif S.has b N then some (.ptr b (off+1) N) else none:=by kernel_rfl
theorem yle (ax:Axs) (S:TS) (l:List T):zan (EE ax) S 59 1 (.cp l)=some (.cp (l.drop 1)):=by kernel_rfl
theorem ylt (ax:Axs) (S:TS) (b off N:Nat):zan (EE ax) S 59 2 (.ptr b off N)=bif S.has b N then some (.ptr b (off+21) N) else none:=by kernel_rfl
theorem yls (ax:Axs) (S:TS) (b off N:Nat):zan (EE ax) S 59 3 (.ptr b off N)=bif S.has b N then some (.ptr b (off+22) N) else none:=by kernel_rfl
theorem yld (ax:Axs) (S:TS) (l:List T):zan (EE ax) S 59 3 (.cp l)=some (.cp (l.drop 22)):=by kernel_rfl
def fs59:Array Field:=match Try.prog.underlying 59 with|some (.struct fs)=>fs|_=>#[]
theorem bt59 (ax:Axs) (ρ:gb->T) (parts:List (Nat×gb)):zki (EE ax) ρ 59 parts=aggO (zcc zS59 (zbk (zfu (EE ax) fs59) ρ parts)):=by kernel_rfl
theorem ti59 (ax:Axs):(EE ax).ti.at 59=some ⟨.struct fs59,23,200,zS59⟩:=by kernel_rfl
theorem ypl (ax:Axs):zfu (EE ax) fs59 0=some (0,1):=by kernel_rfl
theorem ypk (ax:Axs):zfu (EE ax) fs59 1=some (1,20):=by kernel_rfl
theorem yke (ax:Axs):zfu (EE ax) fs59 2=some (21,1):=by kernel_rfl
theorem ti63 (ax:Axs):(EE ax).ti.at 63=some ⟨.slice 48,1,24,[.slice none 0 0]⟩:=by kernel_rfl
def fd74:TypeDesc:=match Try.prog.underlying 74 with|some d=>d|none=>.bool
theorem ti74 (ax:Axs):(EE ax).ti.at 74=some ⟨fd74,1,8,[.nilFunc]⟩:=by kernel_rfl
theorem ag74:aggT fd74=false:=by kernel_rfl
theorem ti75 (ax:Axs):(EE ax).ti.at 75=some ⟨.slice 56,1,24,[.slice none 0 0]⟩:=by kernel_rfl
theorem sr75 (ax:Axs):srcT (EE ax) 75=true:=by kernel_rfl
def zS84:List Value:=[.int .i64 0,.int .i64 0,.int .i64 0,.int .i64 0,.int .i64 0,.int .i64 0,.int .i64 0,.int .i64 0,.int .i64 0,.int .i64 0,.int .i64 0,.int .i64 0,.int .i64 0,.int .i64 0,.int .i64 0,.int .i64 0,.int .i64 0,.int .i64 0,.int .i64 0,.int .i64 0]
theorem yjl:zgx zS84=some ((zA 10).l.map (fi .i64)++((zA 10).l.map (fi .i64))):=rfl
theorem z6y:zS84.length=20:=rfl
theorem ylr (ax:Axs) (S:TS) (b off N:Nat):zan (EE ax) S 84 0 (.ptr b off N)=bif S.has b N then some (.ptr b (off+0) N) else none:=by kernel_rfl
theorem ylq (ax:Axs) (S:TS) (b off N:Nat):zan (EE ax) S 84 1 (.ptr b off N)=bif S.has b N then some (.ptr b (off+10) N) else none:=by kernel_rfl
def fs84:Array Field:=match Try.prog.underlying 84 with|some (.struct fs)=>fs|_=>#[]
theorem bt84 (ax:Axs) (ρ:gb->T) (parts:List (Nat×gb)):zki (EE ax) ρ 84 parts=aggO (zcc zS84 (zbk (zfu (EE ax) fs84) ρ parts)):=by kernel_rfl
theorem ti84 (ax:Axs):(EE ax).ti.at 84=some ⟨.struct fs84,20,160,zS84⟩:=by kernel_rfl
theorem ykd (ax:Axs):zfu (EE ax) fs84 0=some (0,10):=by kernel_rfl
theorem ykc (ax:Axs):zfu (EE ax) fs84 1=some (10,10):=by kernel_rfl
def zS86:List Value:=[.int .i64 0,.int .i64 0,.int .i64 0,.int .i64 0,.int .i64 0,.int .i64 0,.int .i64 0,.int .i64 0,.int .i64 0,.int .i64 0,.int .i64 0,.int .i64 0,.int .i64 0,.int .i64 0,.int .i64 0,.int .i64 0,.int .i64 0,.int .i64 0,.int .i64 0,.int .i64 0,.int .i64 0]
theorem yjk:zgx zS86=some (fi .i64 0 :: ((zA 10).l.map (fi .i64)++((zA 10).l.map (fi .i64)))):=rfl
theorem z6x:zS86.length=21:=rfl
theorem ylp (ax:Axs) (S:TS) (b off N:Nat):zan (EE ax) S 86 0 (.ptr b off N)=bif S.has b N then some (.ptr b (off+0) N) else none:=by kernel_rfl
theorem ylo (ax:Axs) (S:TS) (b off N:Nat):zan (EE ax) S 86 1 (.ptr b off N)=bif S.has b N then some (.ptr b (off+1) N) else none:=by kernel_rfl
def fs86:Array Field:=match Try.prog.underlying 86 with|some (.struct fs)=>fs|_=>#[]
theorem bt86 (ax:Axs) (ρ:gb->T) (parts:List (Nat×gb)):zki (EE ax) ρ 86 parts=aggO (zcc zS86 (zbk (zfu (EE ax) fs86) ρ parts)):=by kernel_rfl
theorem ti86 (ax:Axs):(EE ax).ti.at 86=some ⟨.struct fs86,21,168,zS86⟩:=by kernel_rfl
theorem ypj (ax:Axs):zfu (EE ax) fs86 0=some (0,1):=by kernel_rfl
theorem ypi (ax:Axs):zfu (EE ax) fs86 1=some (1,20):=by kernel_rfl
theorem ti87 (ax:Axs):(EE ax).ti.at 87=some ⟨.slice 86,1,24,[.slice none 0 0]⟩:=by kernel_rfl
theorem ti88 (ax:Axs):(EE ax).ti.at 88=some ⟨.slice 9,1,24,[.slice none 0 0]⟩:=by kernel_rfl
theorem sr88 (ax:Axs):srcT (EE ax) 88=true:=by kernel_rfl
theorem ylc (ax:Axs) (S:TS) (l:List T):zan (EE ax) S 93 0 (.cp l)=some (.cp (l.drop 0)):=by kernel_rfl
theorem yln (ax:Axs) (S:TS) (b off N:Nat):zan (EE ax) S 93 2 (.ptr b off N)=bif S.has b N then some (.ptr b (off+2) N) else none:=by kernel_rfl
theorem ylm (ax:Axs) (S:TS) (b off N:Nat):zan (EE ax) S 93 3 (.ptr b off N)=bif S.has b N then some (.ptr b (off+3) N) else none:=by kernel_rfl
def fs93:Array Field:=match Try.prog.underlying 93 with|some (.struct fs)=>fs|_=>#[]
theorem ti93 (ax:Axs):(EE ax).ti.at 93=some ⟨.struct fs93,4,40,[.string ⟨#[]⟩,.bool false,.int .i64 0,.int .i64 0]⟩:=by kernel_rfl
theorem yll (ax:Axs) (S:TS) (b off N:Nat):zan (EE ax) S 95 0 (.ptr b off N)=bif S.has b N then some (.ptr b (off+0) N) else none:=by kernel_rfl
theorem ylk (ax:Axs) (S:TS) (b off N:Nat):zan (EE ax) S 95 1 (.ptr b off N)=bif S.has b N then some (.ptr b (off+1) N) else none:=by kernel_rfl
theorem ylj (ax:Axs) (S:TS) (b off N:Nat):zan (EE ax) S 95 2 (.ptr b off N)=bif S.has b N then some (.ptr b (off+2) N) else none:=by kernel_rfl
def fs95:Array Field:=match Try.prog.underlying 95 with|some (.struct fs)=>fs|_=>#[]
theorem ti95 (ax:Axs):(EE ax).ti.at 95=some ⟨.struct fs95,3,24,[.int .i64 0,.int .i64 0,.int .i64 0]⟩:=by kernel_rfl
theorem ylb (ax:Axs) (S:TS) (l:List T):zan (EE ax) S 98 0 (.cp l)=some (.cp (l.drop 0)):=by kernel_rfl
theorem yla (ax:Axs) (S:TS) (l:List T):zan (EE ax) S 98 1 (.cp l)=some (.cp (l.drop 1)):=by kernel_rfl
def fs98:Array Field:=match Try.prog.underlying 98 with|some (.struct fs)=>fs|_=>#[]
theorem ti98 (ax:Axs):(EE ax).ti.at 98=some ⟨.struct fs98,2,24,[.string ⟨#[]⟩,.int .i64 0]⟩:=by kernel_rfl
theorem yo1 (ax:Axs):(EE ax).ti.at 101=some ⟨.int .u64,1,8,[.int .u64 0]⟩:=by kernel_rfl
theorem yo0 (ax:Axs):(EE ax).ti.at 115=some ⟨.int .u64,1,8,[.int .u64 0]⟩:=by kernel_rfl
theorem yoz (ax:Axs):(EE ax).ti.at 118=some ⟨.slice 59,1,24,[.slice none 0 0]⟩:=by kernel_rfl
theorem el28 (ax:Axs):zdd (EE ax) 28=some ⟨.struct fs59,23,200,zS59⟩:=by kernel_rfl
theorem el40 (ax:Axs):zdd (EE ax) 40=some ⟨.struct fs30,3,24,[.int .i64 0,.int .i64 0,.int .i64 0]⟩:=by kernel_rfl
theorem el48 (ax:Axs):zdd (EE ax) 48=some ⟨.int .i64,1,8,[.int .i64 0]⟩:=by kernel_rfl
theorem el57 (ax:Axs):zdd (EE ax) 57=some ⟨.slice 86,1,24,[.slice none 0 0]⟩:=by kernel_rfl
theorem el63 (ax:Axs):zdd (EE ax) 63=some ⟨.slice 3,1,24,[.slice none 0 0]⟩:=by kernel_rfl
theorem el75 (ax:Axs):zdd (EE ax) 75=some ⟨.struct fs56,20,160,zS56⟩:=by kernel_rfl
theorem el87 (ax:Axs):zdd (EE ax) 87=some ⟨.struct fs86,21,168,zS86⟩:=by kernel_rfl
theorem el88 (ax:Axs):zdd (EE ax) 88=some ⟨.string,1,16,[.string ⟨#[]⟩]⟩:=by kernel_rfl
instance:Inhabited ByteArray:=⟨⟨#[]⟩⟩
theorem zci {α:Type} {n:Nat} {f:α->T} (h:∀ x,(f x).ids n=true):∀ (l:List α),ju n (l.map f)=true
  |[]=>rfl
  |x :: l=>by simp only [i6,ju,h,zci h l,gd]
theorem zkq {α:Type} {n:Nat} {f:α->T} (h:∀ x,ju n (f x).cells=true):∀ (l:List α),ju n (vecC f l)=true
  |[]=>rfl
  |x :: l=>by
    have:=zkq h l;unfold vecC at this ⊢;rw [i6,jf,zax,h,this];rfl
def ints (l:List Int):T:=.lst 1 (l.map (fi .i64))
theorem zqk {n:Nat} (l:List Int):(ints l).ids n=true:=zci (fun _=>rfl) l
theorem z3l {n:Nat} (l:List Int):ju n (l.map (fi .i64))=true:=zci (fun _=>rfl) l
def z56 (l:List (List Int)):T:=.lst 1 (l.map ints)
theorem z3n {n:Nat} (l:List (List Int)):(z56 l).ids n=true:=zci (fun x=>zqk x) l
theorem zyr {n:Nat} (l:List (List Int)):ju n (l.map ints)=true:=zci (fun x=>zqk x) l
theorem z4n (x:List Int):(ints x).cells=[ints x]:=f7 rfl rfl
theorem z2v (x:List Int):np (ints x)=true:=f7 rfl rfl
def strs (l:List ByteArray):T:=.lst 1 (l.map pn)
theorem z8v {n:Nat} (l:List ByteArray):(strs l).ids n=true:=zci (fun _=>rfl) l
theorem z3i {n:Nat} (l:List ByteArray):ju n (l.map pn)=true:=zci (fun _=>rfl) l
structure Merg where
  kind:Int
  i:Int
  k:Int
deriving Inhabited,DecidableEq
def zin (x:Merg):T:=.agg ([fi .i64 x.kind,fi .i64 x.i,fi .i64 x.k])
theorem ybc {n:Nat} (x:Merg):ju n (zin x).cells=true:=by simp only [zin,jh,mw,ju,zax,zgz,gd]
theorem zqn {n:Nat} (x:Merg):(zin x).ids n=true:=by simp only [zin,mw,ju,zax,zgz,gd]
def zpq (x:Merg):List Value:=[jm .i64 x.kind,jm .i64 x.i,jm .i64 x.k]
def z5f:List CK:=[CK.int .i64,CK.int .i64,CK.int .i64]
theorem zz9 (x:Merg):zgy ([fi .i64 x.kind,fi .i64 x.i,fi .i64 x.k])=some (zpq x):=(zl6 rfl (zl6 rfl (zl6 rfl rfl)))
theorem z02 (x:Merg):zet z5f (zpq x)=true:=(zqr (z9y _ _) (zqr (z9y _ _) (zqr (z9y _ _) rfl)))
theorem yji (a b:Merg):a=b↔a.kind=b.kind/\a.i=b.i/\a.k=b.k:=by cases a;cases b;simp
theorem yf3 (a b:Merg):eqVs (zpq a) (zpq b)=decide (a=b):=by
  rw [ky];simp [zpq,z6i,z06,eqVs,znz,and_assoc,yji]
structure Pat where
  mask:Ar 10
  bits:Ar 10
deriving Inhabited,DecidableEq
def ePat (x:Pat):T:=.agg (x.mask.l.map (fi .i64)++(x.bits.l.map (fi .i64)))
theorem yfj {n:Nat} (x:Pat):ju n (ePat x).cells=true:=by simp only [ePat,jh,mw,ju,zax,zgz,gd]
theorem ztd {n:Nat} (x:Pat):(ePat x).ids n=true:=by simp only [ePat,mw,ju,zax,zgz,gd]
theorem za3 (x:Pat):(ePat x).cells.length=20:=by simp only [ePat,jh,gm,ji,zu7,ft,Ar.len]
theorem zoh (x:Pat):(ePat x).cells.all np=true:=by simp only [ePat,jh,jr,List.all_nil,z1g,zrp,zs8,zqb,zs6,zs7,gd]
theorem z7w (n:Nat):rep n ((zA 10).l.map (fi .i64)++((zA 10).l.map (fi .i64)))=vecC ePat (gc n (⟨zA 10,zA 10⟩:Pat)):=ydr (f:=ePat) (⟨zA 10,zA 10⟩:Pat) n
def zto (x:Pat):List Value:=x.mask.l.map (jm .i64)++(x.bits.l.map (jm .i64))
def yc1:List CK:=gc 10 (CK.int .i64)++(gc 10 (CK.int .i64))
theorem z7e (x:Pat):zgy (x.mask.l.map (fi .i64)++(x.bits.l.map (fi .i64)))=some (zto x):=(zl7 (zjn _) (zjn _))
theorem z9e (x:Pat):zet yc1 (zto x)=true:=(z6f _ (z9d _))
theorem yg6 (a b:Pat):a=b↔a.mask=b.mask/\a.bits=b.bits:=by cases a;cases b;simp
theorem yl5 (a b:Pat):eqVs (zto a) (zto b)=decide (a=b):=by
  rw [ky];simp [zto,z6i,z06,eqVs,znz,and_assoc,yg6]
structure Alt where
  link:Int
  mod:Pat
deriving Inhabited,DecidableEq
def eAlt (x:Alt):T:=.agg (fi .i64 x.link :: (x.mod.mask.l.map (fi .i64)++(x.mod.bits.l.map (fi .i64))))
theorem yfk {n:Nat} (x:Alt):ju n (eAlt x).cells=true:=by simp only [eAlt,jh,mw,ju,zax,zgz,gd]
theorem zte {n:Nat} (x:Alt):(eAlt x).ids n=true:=by simp only [eAlt,mw,ju,zax,zgz,gd]
theorem zd9 (x:Alt):(eAlt x).cells.length=21:=by simp only [eAlt,jh,gm,ji,zu7,ft,Ar.len]
def ztp (x:Alt):List Value:=jm .i64 x.link :: (x.mod.mask.l.map (jm .i64)++(x.mod.bits.l.map (jm .i64)))
def yc2:List CK:=CK.int .i64 :: (gc 10 (CK.int .i64)++(gc 10 (CK.int .i64)))
theorem z7f (x:Alt):zgy (fi .i64 x.link :: (x.mod.mask.l.map (fi .i64)++(x.mod.bits.l.map (fi .i64))))=some (ztp x):=(zl6 rfl (zl7 (zjn _) (zjn _)))
theorem z9f (x:Alt):zet yc2 (ztp x)=true:=(zqr (z9y _ _) (z6f _ (z9d _)))
theorem yot (a b:Alt):a=b↔a.link=b.link/\a.mod=b.mod:=by cases a;cases b;simp
theorem yl6 (a b:Alt):eqVs (ztp a) (ztp b)=decide (a=b):=by
  rw [ky];simp [ztp,z6i,z06,eqVs,znz,and_assoc,yg6,yot]
def lAlt (l:List Alt):T:=.lst 21 (l.map eAlt)
theorem ztc {n:Nat} (l:List Alt):(lAlt l).ids n=true:=zci (fun x=>zte x) l
theorem z3k {n:Nat} (l:List Alt):ju n (l.map eAlt)=true:=zci (fun x=>zte x) l
theorem z3h {n:Nat} (l:List Alt):ju n (vecC eAlt l)=true:=zkq (fun x=>yfk x) l
def za6 (l:List (List Alt)):T:=.lst 1 (l.map lAlt)
theorem zqj {n:Nat} (l:List (List Alt)):(za6 l).ids n=true:=zci (fun x=>ztc x) l
theorem zys {n:Nat} (l:List (List Alt)):ju n (l.map lAlt)=true:=zci (fun x=>ztc x) l
theorem z4m (x:List Alt):(lAlt x).cells=[lAlt x]:=f7 rfl rfl
theorem z2u (x:List Alt):np (lAlt x)=true:=f7 rfl rfl
structure Rule where
  prio:Int
  mat:Pat
  step:Int
  outs:List (List Alt)
deriving Inhabited,DecidableEq
def zaj (x:Rule):T:=.agg (fi .i64 x.prio :: (x.mat.mask.l.map (fi .i64)++(x.mat.bits.l.map (fi .i64)++[fi .i64 x.step,za6 x.outs])))
theorem yba {n:Nat} (x:Rule):ju n (zaj x).cells=true:=by simp only [zaj,jh,mw,ju,zax,zgz,zqj,gd]
theorem zql {n:Nat} (x:Rule):(zaj x).ids n=true:=by simp only [zaj,mw,ju,zax,zgz,zqj,gd]
theorem zav (x:Rule):(zaj x).cells.length=23:=by simp only [zaj,jh,gm,ji,zu7,ft,Ar.len]
theorem zi3 (x:Rule):(zaj x).cells.all np=true:=by simp only [zaj,jh,jr,List.all_nil,z1g,zrp,zs8,zqb,zs6,zs7,gd,za6.eq_1]
structure Node where
  name:ByteArray
  box:Bool
  rules:Int
  entries:Int
deriving Inhabited,DecidableEq
def zqw (x:Node):T:=.agg ([pn x.name,sr x.box,fi .i64 x.rules,fi .i64 x.entries])
theorem ybb {n:Nat} (x:Node):ju n (zqw x).cells=true:=by simp only [zqw,jh,mw,ju,zax,zgz,gd]
theorem zqm {n:Nat} (x:Node):(zqw x).ids n=true:=by simp only [zqw,mw,ju,zax,zgz,gd]
structure Link where
  frm:Int
  to:Int
  cap:Int
deriving Inhabited,DecidableEq
def zqx (x:Link):T:=.agg ([fi .i64 x.frm,fi .i64 x.to,fi .i64 x.cap])
theorem ybd {n:Nat} (x:Link):ju n (zqx x).cells=true:=by simp only [zqx,jh,mw,ju,zax,zgz,gd]
theorem zqo {n:Nat} (x:Link):(zqx x).ids n=true:=by simp only [zqx,mw,ju,zax,zgz,gd]
structure Edge where
  name:ByteArray
  node:Int
deriving Inhabited,DecidableEq
def zqy (x:Edge):T:=.agg ([pn x.name,fi .i64 x.node])
theorem ybe {n:Nat} (x:Edge):ju n (zqy x).cells=true:=by simp only [zqy,jh,mw,ju,zax,zgz,gd]
theorem zqp {n:Nat} (x:Edge):(zqy x).ids n=true:=by simp only [zqy,mw,ju,zax,zgz,gd]
def zgs (l:List Node):T:=.lst 4 (l.map zqw)
theorem zve {n:Nat} (l:List Node):(zgs l).ids n=true:=zci (fun x=>zqm x) l
theorem zyo {n:Nat} (l:List Node):ju n (l.map zqw)=true:=zci (fun x=>zqm x) l
theorem zyj {n:Nat} (l:List Node):ju n (vecC zqw l)=true:=zkq (fun x=>ybb x) l
def zgt (l:List Link):T:=.lst 3 (l.map zqx)
theorem zvf {n:Nat} (l:List Link):(zgt l).ids n=true:=zci (fun x=>zqo x) l
theorem zyq {n:Nat} (l:List Link):ju n (l.map zqx)=true:=zci (fun x=>zqo x) l
theorem zyl {n:Nat} (l:List Link):ju n (vecC zqx l)=true:=zkq (fun x=>ybd x) l
def zgu (l:List Edge):T:=.lst 2 (l.map zqy)
theorem zvg {n:Nat} (l:List Edge):(zgu l).ids n=true:=zci (fun x=>zqp x) l
theorem zyt {n:Nat} (l:List Edge):ju n (l.map zqy)=true:=zci (fun x=>zqp x) l
theorem zym {n:Nat} (l:List Edge):ju n (vecC zqy l)=true:=zkq (fun x=>ybe x) l
structure Net where
  nodes:List Node
  links:List Link
  edges:List Edge
deriving Inhabited,DecidableEq
def eNet (x:Net):T:=.agg ([zgs x.nodes,zgt x.links,zgu x.edges])
theorem z8y {n:Nat} (x:Net):(eNet x).ids n=true:=by simp only [eNet,mw,ju,zax,zgz,zve,zvf,zvg,gd]
def zae (l:List Rule):T:=.lst 23 (l.map zaj)
theorem zvd {n:Nat} (l:List Rule):(zae l).ids n=true:=zci (fun x=>zql x) l
theorem zyn {n:Nat} (l:List Rule):ju n (l.map zaj)=true:=zci (fun x=>zql x) l
theorem zyi {n:Nat} (l:List Rule):ju n (vecC zaj l)=true:=zkq (fun x=>yba x) l
def zow (l:List Merg):T:=.lst 3 (l.map zin)
theorem z3m {n:Nat} (l:List Merg):(zow l).ids n=true:=zci (fun x=>zqn x) l
theorem zyp {n:Nat} (l:List Merg):ju n (l.map zin)=true:=zci (fun x=>zqn x) l
theorem zyk {n:Nat} (l:List Merg):ju n (vecC zin l)=true:=zkq (fun x=>ybc x) l
def lPat (l:List Pat):T:=.lst 20 (l.map ePat)
theorem z8x {n:Nat} (l:List Pat):(lPat l).ids n=true:=zci (fun x=>ztd x) l
theorem z3j {n:Nat} (l:List Pat):ju n (l.map ePat)=true:=zci (fun x=>ztd x) l
theorem z3g {n:Nat} (l:List Pat):ju n (vecC ePat l)=true:=zkq (fun x=>yfj x) l
theorem aq30 (ax:Axs) (a b:Merg):(∀ (S:TS) (x y:gb),tBin Try.prog (EE ax) S 30 .eql x y (.agg ([fi .i64 a.kind,fi .i64 a.i,fi .i64 a.k])) (.agg ([fi .i64 b.kind,fi .i64 b.i,fi .i64 b.k]))=some (.bool (decide (a=b))))/\(∀ (S:TS) (x y:gb),tBin Try.prog (EE ax) S 30 .neq x y (.agg ([fi .i64 a.kind,fi .i64 a.i,fi .i64 a.k])) (.agg ([fi .i64 b.kind,fi .i64 b.i,fi .i64 b.k]))=some (.bool (!(decide (a=b))))):=⟨fun _ _ _=>(zq8 (sh:=z5f) (by kernel_rfl) (by kernel_rfl) (zz9 a) (zz9 b) (z02 a) (z02 b) (yf3 a b)).1,fun _ _ _=>(zq8 (sh:=z5f) (by kernel_rfl) (by kernel_rfl) (zz9 a) (zz9 b) (z02 a) (z02 b) (yf3 a b)).2⟩
theorem aq56 (ax:Axs) (a b:Pat):(∀ (S:TS) (x y:gb),tBin Try.prog (EE ax) S 56 .eql x y (.agg (a.mask.l.map (fi .i64)++(a.bits.l.map (fi .i64)))) (.agg (b.mask.l.map (fi .i64)++(b.bits.l.map (fi .i64))))=some (.bool (decide (a=b))))/\(∀ (S:TS) (x y:gb),tBin Try.prog (EE ax) S 56 .neq x y (.agg (a.mask.l.map (fi .i64)++(a.bits.l.map (fi .i64)))) (.agg (b.mask.l.map (fi .i64)++(b.bits.l.map (fi .i64))))=some (.bool (!(decide (a=b))))):=⟨fun _ _ _=>(zq8 (sh:=yc1) (by kernel_rfl) (by kernel_rfl) (z7e a) (z7e b) (z9e a) (z9e b) (yl5 a b)).1,fun _ _ _=>(zq8 (sh:=yc1) (by kernel_rfl) (by kernel_rfl) (z7e a) (z7e b) (z9e a) (z9e b) (yl5 a b)).2⟩
theorem aq86 (ax:Axs) (a b:Alt):(∀ (S:TS) (x y:gb),tBin Try.prog (EE ax) S 86 .eql x y (.agg (fi .i64 a.link :: (a.mod.mask.l.map (fi .i64)++(a.mod.bits.l.map (fi .i64))))) (.agg (fi .i64 b.link :: (b.mod.mask.l.map (fi .i64)++(b.mod.bits.l.map (fi .i64)))))=some (.bool (decide (a=b))))/\(∀ (S:TS) (x y:gb),tBin Try.prog (EE ax) S 86 .neq x y (.agg (fi .i64 a.link :: (a.mod.mask.l.map (fi .i64)++(a.mod.bits.l.map (fi .i64))))) (.agg (fi .i64 b.link :: (b.mod.mask.l.map (fi .i64)++(b.mod.bits.l.map (fi .i64)))))=some (.bool (!(decide (a=b))))):=⟨fun _ _ _=>(zq8 (sh:=yc2) (by kernel_rfl) (by kernel_rfl) (z7f a) (z7f b) (z9f a) (z9f b) (yl6 a b)).1,fun _ _ _=>(zq8 (sh:=yc2) (by kernel_rfl) (by kernel_rfl) (z7f a) (z7f b) (z9f a) (z9f b) (yl6 a b)).2⟩
theorem eqA:type_of% (fe (fe (fe (fe (@ints.eq_1) (fe (@z56.eq_1) (@z4n))) (fe (@z2v) (fe (@strs.eq_1) (@zin.eq_1)))) (fe (fe (@ePat.eq_1) (fe (@eAlt.eq_1) (@lAlt.eq_1))) (fe (@za6.eq_1) (fe (@z4m) (@z2u))))) (fe (fe (fe (@zaj.eq_1) (fe (@zqw.eq_1) (@zqx.eq_1))) (fe (@zqy.eq_1) (fe (@zgs.eq_1) (@zgt.eq_1)))) (fe (fe (@zgu.eq_1) (fe (@eNet.eq_1) (@zae.eq_1))) (fe (@zow.eq_1) (fe (@lPat.eq_1) (@yjm)))))):=fe (fe (fe (fe (@ints.eq_1) (fe (@z56.eq_1) (@z4n))) (fe (@z2v) (fe (@strs.eq_1) (@zin.eq_1)))) (fe (fe (@ePat.eq_1) (fe (@eAlt.eq_1) (@lAlt.eq_1))) (fe (@za6.eq_1) (fe (@z4m) (@z2u))))) (fe (fe (fe (@zaj.eq_1) (fe (@zqw.eq_1) (@zqx.eq_1))) (fe (@zqy.eq_1) (fe (@zgs.eq_1) (@zgt.eq_1)))) (fe (fe (@zgu.eq_1) (fe (@eNet.eq_1) (@zae.eq_1))) (fe (@zow.eq_1) (fe (@lPat.eq_1) (@yjm)))))
theorem eqB:type_of% (fe (fe (@z6z) (fe (@yb1) (@zzk))) (fe (fe (@yjl) (@z6y)) (fe (@yjk) (@z6x)))):=fe (fe (@z6z) (fe (@yb1) (@zzk))) (fe (fe (@yjl) (@z6y)) (fe (@yjk) (@z6x)))
theorem eqsA:type_of% (fe (fe (fe (fe (@z5g) (fe (@sgT) (@sgT1))) (fe (@sgD) (fe (@sgD1) (@sgG)))) (fe (fe (@splA) (fe (@ypa) (@yo9))) (fe (@splS) (fe (@ygx) (@z4w))))) (fe (fe (fe (@zu7) (fe (@z1g) (@z1q))) (fe (@z36) (fe (@ykr) (@yp0)))) (fe (fe (@ykq) (fe (@yfc) (@yf7))) (fe (@you) (fe (@Ar.len) (@zrp)))))):=fe (fe (fe (fe (@z5g) (fe (@sgT) (@sgT1))) (fe (@sgD) (fe (@sgD1) (@sgG)))) (fe (fe (@splA) (fe (@ypa) (@yo9))) (fe (@splS) (fe (@ygx) (@z4w))))) (fe (fe (fe (@zu7) (fe (@z1g) (@z1q))) (fe (@z36) (fe (@ykr) (@yp0)))) (fe (fe (@ykq) (fe (@yfc) (@yf7))) (fe (@you) (fe (@Ar.len) (@zrp)))))
theorem eqsB:type_of% (fe (fe (fe (@z4q) (@z1h)) (fe (@ymh) (@sub0))) (fe (fe (@z67) (@z1c)) (fe (@ycd) (fe (@ymi) (@yg1))))):=fe (fe (fe (@z4q) (@z1h)) (fe (@ymh) (@sub0))) (fe (fe (@z67) (@z1c)) (fe (@ycd) (fe (@ymi) (@yg1))))
theorem idsA:type_of% (fe (fe (fe (fe (@zqk) (fe (@z3l) (@z3n))) (fe (@zyr) (fe (@z8v) (@z3i)))) (fe (fe (@zqn) (fe (@ztd) (@zte))) (fe (@ztc) (fe (@z3k) (@z3h))))) (fe (fe (fe (@zqj) (fe (@zys) (@zql))) (fe (@zqm) (fe (@zqo) (@zqp)))) (fe (fe (@zve) (fe (@zyo) (@zyj))) (fe (@zvf) (fe (@zyq) (@zyl)))))):=fe (fe (fe (fe (@zqk) (fe (@z3l) (@z3n))) (fe (@zyr) (fe (@z8v) (@z3i)))) (fe (fe (@zqn) (fe (@ztd) (@zte))) (fe (@ztc) (fe (@z3k) (@z3h))))) (fe (fe (fe (@zqj) (fe (@zys) (@zql))) (fe (@zqm) (fe (@zqo) (@zqp)))) (fe (fe (@zve) (fe (@zyo) (@zyj))) (fe (@zvf) (fe (@zyq) (@zyl)))))
theorem idsB:type_of% (fe (fe (fe (fe (@zvg) (@zyt)) (fe (@zym) (@z8y))) (fe (fe (@zvd) (@zyn)) (fe (@zyi) (@z3m)))) (fe (fe (fe (@zyp) (@zyk)) (fe (@z8x) (@z3j))) (fe (fe (@z3g) (@yku)) (fe (@zgz) (fe (@yfl) (@zax)))))):=fe (fe (fe (fe (@zvg) (@zyt)) (fe (@zym) (@z8y))) (fe (fe (@zvd) (@zyn)) (fe (@zyi) (@z3m)))) (fe (fe (fe (@zyp) (@zyk)) (fe (@z8x) (@z3j))) (fe (fe (@z3g) (@yku)) (fe (@zgz) (fe (@yfl) (@zax)))))
structure yop (ax:Axs):Prop where
  no:∀ f,fy f 9=false->ax f=none
  san:Pure Try.prog (EE ax) [] 9 [] (.bool true)
theorem Pure.clr {P:gt} {Γ:Env} {GL:List (Nat×List Value)} {f:FuncId} {args:List T} {v v2:T} {S:TS} (k:Pure P Γ GL f args v) (e:v=v2):zal P Γ GL f args S v2:=e ▸ k.call S
mutual
inductive Rt (W:World):T->Value->Prop
  |int (k n):Rt W (.int k n) (.int k n)
  |bool (b):Rt W (.bool b) (.bool b)
  |str (b):Rt W (.str b) (.string b)
  |agg {l cs}:RtL W l cs->Rt W (.agg l) (.agg ⟨cs⟩)
  |nil {e}:Rt W (.lst e []) (.slice none 0 0)
  |zero {e a}:0<e->0<W.heap.size->Rt W (.lst e []) (.slice (some a) 0 0)
  |lst {e l b off cap cs}:RtL W (l.flatMap jh) cs->(∀ t,t∈l->t.cells.length=e)->0<e->l.length<=cap->cap<=maxLen->(W.cell? ⟨b,off,none⟩).isSome=true->(∀ (j:Nat) u,cs[j]?=some u->W.cell? ⟨b,off+j,none⟩=some u)->Rt W (.lst e l) (.slice (some ⟨b,off,none⟩) l.length cap)
inductive RtL (W:World):List T->List Value->Prop
  |nil:RtL W [] []
  |cons {t v l vs}:Rt W t v->RtL W l vs->RtL W (t :: l) (v :: vs)
end
section
variable {W:World} {N:Nat} {G:List Nat} {K:List (Nat×List Value)}
theorem RtL.len:∀ {l:List T} {vs:List Value},RtL W l vs->l.length=vs.length
  |_,_,.nil=>rfl
  |_,_,.cons _ h=>by rw [gm,gm,h.len]
theorem z6r {b j k:Nat} (h:(W.cell? ⟨b,k,none⟩).isSome=true) (hj:j<=k):(W.cell? ⟨b,j,none⟩).isSome=true:=by
  unfold sl at h ⊢;simp only at h ⊢;split at h
  . rename_i c _ _ hb;simp only [Option.isSome_none,Bool.false_eq_true,if_false] at h ⊢
    have:k<c.size:=by
      by_cases hk:k<c.size
      . exact hk
      . rw [Array.getElem?_eq_none (by omega)] at h;simp at h
    rw [lc (by omega)];rfl
  . simp at h
theorem yi1 {b k:Nat} (h:(W.cell? ⟨b,k,none⟩).isSome=true):b<W.heap.size:=by
  unfold sl at h;simp only at h;by_cases hb:b<W.heap.size
  . exact hb
  . rw [Array.getElem?_eq_none (by omega)] at h;simp at h
theorem zuk {u:Nat} {m:List (Nat×List Value)}:∀ {l:List (Nat×List Value)},(∀ p,p∈l->p.1≠u)->zbo (l++m) u=zbo m u
  |[],_=>rfl
  |p :: l,h=>by
    show (bif fy p.1 u then some p.2 else zbo (l++m) u)=_;rw [zje (h p (by simp)),cond_false];exact zuk fun q hq=>h q (by simp [hq])
theorem zt7 {f:Nat} {q:Seg}:∀ {F:List Seg} {i j:Nat},F[i]?=some q->q.b=f->zbo (zkz N f j F) ((N+(j+i))*1024)=some q.cs
  |[],i,j,h,_=>by simp at h
  |p :: F,0,j,h,hb=>by
    simp only [ij,ff] at h;subst h;unfold zkz;rw [zAc hb]
    simp [zbo,jc]
  |p :: F,i+1,j,h,hb=>by
    have ih:=zt7 (F:=F) (i:=i) (j:=j+1) (by simpa using h) hb;rw [show j+1+i=j+(i+1) by omega] at ih;unfold zkz;split
    . unfold zbo
      have:fy ((N+j)*1024) ((N+(j+(i+1)))*1024)=false:=by
        cases hq:fy ((N+j)*1024) ((N+(j+(i+1)))*1024) with
        |false=>rfl
        |true=>have:=fl hq;omega
      rw [this];exact ih
    . exact ih
def Low (N:Nat):Nat->Prop:=fun f=>f<N
structure En (W:World) (N:Nat) (G:List Nat) (K:List (Nat×List Value)) (pre A:List Seg) (l:List T) (xs vs:List Value):Prop where
  vr:∀ post,RL (VR (sgS N G K (pre++A++post))) xs vs
  vl:∀ post,VL (Low N) bx0 (famS N K (pre++A++post)) l xs
  at_:∀ post q,q∈A->yqp (sgS N G K (pre++A++post)) W q
theorem ypb (hK:∀ p,p∈K->has G p.1=true) (hG:∀ g,has G g=true->g<N) {F:List Seg} {i:Nat} {q:Seg} (hq:F[i]?=some q) (hb:q.b<N) :
    sgS N G K F q.b ((N+i)*1024)=some (q.b,q.o,q.o+q.cs.length)/\zbo (famS N K F q.b).rows ((N+i)*1024)=some q.cs:=by
  constructor
  . unfold sgS;rw [zAd (by rintro ⟨_,h⟩;omega),zAc (by omega)];have e:(N+i)*1024 / 1024 - N=i:=by omega
    rw [e,hq];show (if q.b=q.b then _ else _)=_;rw [zAc rfl]
  . show zbo ((famK K q.b).rows++zkz N q.b 0 F) _=_;rw [zuk fun p hp=>?_]
    . have:=zt7 (N:=N) (j:=0) hq rfl
      rwa [i8] at this
    . obtain ⟨h1,h2,_⟩:=zvr hp;have:=hG _ (hK _ h2);rw [h1];simp only at this;omega
theorem yfh {α:Type} (pre A post:List α) (q:α):(pre++(A++[q])++post)[pre.length+A.length]?=some q:=by
  rw [gq,gq,iq (by omega),iq (by omega)];simp
mutual
theorem ent (hN:N=W.heap.size) (hK:∀ p,p∈K->has G p.1=true) (hG:∀ g,has G g=true->g<N):∀ {t:T} {v:Value},Rt W t v->∀ pre,∃ A x,En W N G K pre A [t] [x] [v]
  |_,_,.int k n,pre=>⟨[],.int k n,⟨fun _=>⟨zil 3 rfl,trivial⟩,fun _=>.cons (.int k n) .nil,fun _ q hq=>by simp at hq⟩⟩
  |_,_,.bool b,pre=>⟨[],.bool b,⟨fun _=>⟨zil 3 rfl,trivial⟩,fun _=>.cons (.bool b) .nil,fun _ q hq=>by simp at hq⟩⟩
  |_,_,.str b,pre=>⟨[],.string b,⟨fun _=>⟨zil 3 rfl,trivial⟩,fun _=>.cons (.str b) .nil,fun _ q hq=>by simp at hq⟩⟩
  |_,_,.agg h,pre=>by
    obtain ⟨A,xs,k⟩:=entL hN hK hG h pre;exact ⟨A,.agg ⟨xs⟩,fun post=>⟨VR.mk ⟨_,rfl,k.vr post⟩,trivial⟩,fun post=>.cons (.agg (k.vl post)) .nil,k.at_⟩
  |_,_,.nil,pre=>⟨[],.slice none 0 0,⟨fun _=>⟨VR.mk ⟨rfl,rfl,rfl⟩,trivial⟩,fun _=>.cons .lnil .nil,fun _ q hq=>by simp at hq⟩⟩
  |.lst e _,.slice _ _ _,@Rt.zero _ _ a he hs,pre=>by
    have hi:=fun post=>yfh pre [] post (⟨0,0,[]⟩:Seg);have h0:∀ post,_:=fun post=>ypb (q:=(⟨0,0,[]⟩:Seg)) hK hG (hi post) (by show 0<N;omega);refine ⟨[⟨0,0,[]⟩],.slice (some (mkA 0 ((N+(pre.length+0))*1024) 0)) 0 0,⟨fun post=>⟨VR.mk ⟨0,0,_,(h0 post).1,a,0,rfl,fp _,fp _,iw _,fun h=>absurd rfl h,fun _=>rfl,fun _ h=>absurd rfl h⟩,trivial⟩,fun post=>.cons ?_ .nil,fun post q hq=>?_⟩⟩
    . exact .lst (l:=[]) (cs:=[]) (show (0:Nat)<N by omega) (h0 post).2 .nil (fun t ht=>by simp at ht) he rfl (.inl (by omega)) (fp _)
    . simp only [ic] at hq;subst hq;exact ⟨hs,fun j hj=>by simp at hj,fun j u hu=>by simp at hu⟩
  |.lst e l,.slice _ _ cap,@Rt.lst _ _ _ b off _ cs h hs he hl hm hc hcell,pre=>by
    obtain ⟨A,xs,k⟩:=entL hN hK hG h pre;have hxl:xs.length=cs.length:=(k.vr []).length;have hb:b<W.heap.size:=yi1 hc;have hi:=fun post=>yfh pre A post (⟨b,off,xs⟩:Seg);have h0:=fun post=>ypb (q:=(⟨b,off,xs⟩:Seg)) hK hG (hi post) (by show b<N;omega);have hF:∀ post,pre++(A++[⟨b,off,xs⟩])++post=pre++A++((⟨b,off,xs⟩:Seg) :: post):=fun post=>by simp
    refine ⟨A++[⟨b,off,xs⟩],.slice (some (mkA b ((N+(pre.length+A.length))*1024) 0)) l.length cap,⟨fun post=>⟨VR.mk ⟨b,off,_,(h0 post).1,⟨b,off,none⟩,cap,rfl,hl,fp _,hm,fun _=>rfl,fun _=>rfl,fun ht=>?_⟩,trivial⟩,fun post=>.cons ?_ .nil,fun post q hq=>?_⟩⟩
    . rw [zj3] at ht;omega
    . refine .lst (cs:=xs) (show b<N by omega) (h0 post).2 ?_ hs he (by rw [gu,List.take_length]) (.inl (by omega)) hl;rw [hF];exact k.vl _
    . rcases ir.1 hq with hq|hq
      . rw [hF];exact k.at_ _ q hq
      . simp only [ic] at hq;subst hq;refine ⟨hb,fun j hj=>?_,fun j u hu=>?_⟩
        . have hj:j<off+xs.length:=hj;by_cases h1:j<=off
          . exact z6r hc h1
          . have hjc:j - off<cs.length:=by omega
            have:=hcell (j - off) _ (fm hjc);rw [show off+(j - off)=j by omega] at this;rw [this];rfl
        . have hju:j<xs.length:=(gh.1 hu).1;have hu:xs[j]?=some u:=hu;have hcs:=fm (l:=cs) (i:=j) (by omega);refine ⟨_,hcell j _ hcs,?_⟩;rw [hF];obtain ⟨y,hy1,hy2⟩:=(k.vr (⟨b,off,xs⟩ :: post)).at hu;rw [hcs] at hy1;cases hy1;exact hy2
theorem entL (hN:N=W.heap.size) (hK:∀ p,p∈K->has G p.1=true) (hG:∀ g,has G g=true->g<N):∀ {l:List T} {vs:List Value},RtL W l vs->∀ pre,∃ A xs,En W N G K pre A l xs vs
  |_,_,.nil,pre=>⟨[],[],⟨fun _=>trivial,fun _=>.nil,fun _ q hq=>by simp at hq⟩⟩
  |_,_,.cons h1 h2,pre=>by
    obtain ⟨A1,x,k1⟩:=ent hN hK hG h1 pre;obtain ⟨A2,xs,k2⟩:=entL hN hK hG h2 (pre++A1);have e1:∀ post,pre++(A1++A2)++post=pre++A1++(A2++post):=fun post=>by simp
    have e2:∀ post,pre++(A1++A2)++post=pre++A1++A2++post:=fun post=>by simp
    refine ⟨A1++A2,x :: xs,⟨fun post=>⟨?_,?_⟩,fun post=>?_,fun post q hq=>?_⟩⟩
    . rw [e1];exact (k1.vr _).1
    . rw [e2];exact k2.vr _
    . have a:=k1.vl (A2++post);have b:=k2.vl post;rw [<- e1] at a;rw [<- e2] at b
      cases a with
      |cons a _=>exact .cons a b
    . rcases ir.1 hq with hq|hq
      . rw [e1];exact k1.at_ _ q hq
      . rw [e2];exact k2.at_ _ q hq
end
end
inductive Sh where
  |int (k:iy)
  |bool
  |str
  |slice (e:Sh)
  |struct (l:List Sh)
  |arr (k:iy) (n:Nat)
mutual
def Sh.sz:Sh->Nat
  |.struct l=>Sh.szL l
  |.arr _ n=>n
  |_=>1
def Sh.szL:List Sh->Nat
  |[]=>0
  |s :: l=>s.sz+Sh.szL l
end
mutual
def shOk (P:gt):Sh->gi->Bool
  |.int k,t=>match P.underlying t with|some (.int k')=>decide (k=k')|_=>false
  |.bool,t=>match P.underlying t with|some .bool=>true|_=>false
  |.str,t=>match P.underlying t with|some .string=>true|_=>false
  |.slice s,t=>match P.underlying t with|some (.slice e)=>fy (P.cellsOf e) s.sz && (Nat.blt 0 s.sz && shOk P s e)|_=>false
  |.struct l,t=>match P.underlying t with|some (.struct fs)=>fy (P.cellsOf t) (Sh.szL l) && yaq P l fs.toList 0|_=>false
  |.arr k n,t=>match P.underlying t with|some (.array m e)=>fy m n && (fy (P.cellsOf t) n && (fy (P.cellsOf e) 1 && (match P.underlying e with|some (.int k')=>decide (k=k')|_=>false)))|_=>false
def yaq (P:gt):List Sh->List Field->Nat->Bool
  |[],[],_=>true
  |s :: l,f :: fs,o=>fy f.offset o && (fy (P.cellsOf f.type) s.sz && (shOk P s f.type && yaq P l fs (o+s.sz)))
  |_,_,_=>false
end
mutual
def conf:Sh->T->Prop
  |.int k,t=>∃ n,t=.int k n/\(Lit.int k n).wf=true
  |.bool,t=>∃ b,t=.bool b
  |.str,t=>∃ s,t=.str s/\s.size<=maxLen
  |.slice e,t=>∃ l,t=.lst e.sz l/\l.length<=maxLen/\∀ x,x∈l->conf e x
  |.struct l,t=>∃ cs,t=.agg cs/\yn5 l cs
  |.arr k n,t=>∃ a:Ar n,t=.agg (a.l.map (fi k))/\∀ x,x∈a.l->(Lit.int k x).wf=true
def yn5:List Sh->List T->Prop
  |[],cs=>cs=[]
  |s :: l,cs=>∃ x r,cs=x.cells++r/\conf s x/\yn5 l r
end
theorem ygk {α:Type} {p:Nat->α->Prop}:∀ n,(∀ i,i<n->∃ x,p i x)->∃ l:List α,l.length=n/\∀ i (hi:i<l.length),p i l[i]:=by
  intro n
  induction n with
  |zero=>intro _;exact ⟨[],rfl,fun i hi=>by simp at hi⟩
  |succ n ih =>
    intro h;obtain ⟨l,hl,hp⟩:=ih (fun i hi=>h i (by omega));obtain ⟨x,hx⟩:=h n (by omega);refine ⟨l++[x],by simp [hl],fun i hi=>?_⟩;by_cases hin:i<l.length
    . rw [List.getElem_append_left hin];exact hp i hin
    . have:i=l.length:=by simp at hi;omega
      subst this;rw [List.getElem_append_right (fp _)];simpa [hl] using hx
section
variable {H:Type} {enc:gi×Value->H} {P:gt} {W:World}
theorem RtL.append:∀ {l l2:List T} {vs vs2:List Value},RtL W l vs->RtL W l2 vs2->RtL W (l++l2) (vs++vs2)
  |_,_,_,_,.nil,k=>k
  |_,_,_,_,.cons h k,k2=>.cons h (k.append k2)
theorem RtL.flat:∀ {l:List (T×List Value)},(∀ p,p∈l->RtL W p.1.cells p.2)->RtL W ((l.map (·.1)).flatMap jh) (l.map (·.2)).flatten
  |[],_=>.nil
  |p :: l,h=>by
    rw [i6,jf,i6,im];exact (h p (by simp)).append (RtL.flat fun q hq=>h q (by simp [hq]))
theorem zyx {b k:Nat}:∀ {l:List (List Value)} {o:Nat},(∀ c,c∈l->c.length=k)->(∀ (i:Nat) c,l[i]?=some c->∀ j,j<k->W.cell? ⟨b,o+i*k+j,none⟩=c[j]?)->∀ (j:Nat) u,l.flatten[j]?=some u->W.cell? ⟨b,o+j,none⟩=some u
  |[],o,_,_,j,u,h=>by simp at h
  |c :: l,o,hl,hc,j,u,h=>by
    have hck:=hl c (by simp);rw [im] at h;by_cases hj:j<c.length
    . rw [gn hj] at h;have:=hc 0 c rfl j (by omega);rw [Nat.zero_mul,js] at this;rw [this,h]
    . rw [iq (by omega)] at h
      have:=zyx (o:=o+k) (fun c hc=>hl c (by simp [hc])) (fun i c' hi j hj=>by
        have:=hc (i+1) c' (by simpa using hi) j hj;rw [show o+(i+1)*k+j=o+k+i*k+j by rw [jv];omega] at this
        exact this) (j - c.length) u h
      rw [show o+k+(j - c.length)=o+j by omega] at this;exact this
def zwa (W:World) (cs:List Value):Prop:=∀ v,v∈cs->(∃ a n c,v=.slice (some a) n c)->0<W.heap.size
theorem zwa.of (h:0<W.heap.size) (cs:List Value):zwa W cs:=fun _ _ _=>h
theorem zwa.sub {cs cs':List Value} (h:zwa W cs) (hs:∀ v,v∈cs'->v∈cs):zwa W cs':=fun v hv=>h v (hs v hv)
theorem yap {s:Sh} {e t:gi} {fuel:Nat} {cs:List Value} {x:DataW H×List MemPlace} (ht:P.underlying t=some (.slice e)) (hsz:P.cellsOf e=s.sz) (hpos:0<s.sz)
    (ih:∀ {fuel:Nat} {cs:List Value} {x:DataW H×List MemPlace},DataW.trod enc P W 0 (fun _=>true) true fuel e cs=some x->zwa W cs->∃ tr,conf s tr/\RtL W tr.cells cs)
    (h:DataW.trod enc P W 0 (fun _=>true) true fuel t cs=some x) (hz:zwa W cs):∃ tr,conf (.slice s) tr/\RtL W tr.cells cs:=by
  rcases Go.Deep.open_slice ht h with ⟨rfl,_⟩|⟨a,len,cap,m,n,D,Pl,rfl,hb,hl,hm,hmm,_,hall⟩
  . exact ⟨.lst s.sz [],⟨[],rfl,iw _,fun x hx=>by simp at hx⟩,.cons .nil .nil⟩
  . have hh:0<W.heap.size:=hz (.slice (some a) len cap) (by simp) ⟨_,_,_,rfl⟩;simp only [if_true] at hmm;subst hmm;rw [hsz] at hall;by_cases h0:m=0
    . subst h0;have:len=0:=by omega
      subst this;exact ⟨.lst s.sz [],⟨[],rfl,iw _,fun x hx=>by simp at hx⟩,.cons (.zero hpos hh) .nil⟩
    obtain ⟨cs0,hc0,_⟩:=hall 0 (by omega);obtain ⟨_,hl0,hcc0⟩:=World.cells?_some hc0
    have hcell0:((W.cell? ((a.add (0*s.sz)).add 0))).isSome=true:=by
      rw [hcc0 0 hpos,fm (by omega)];rfl
    obtain ⟨b,off,spot⟩:=a
    have hspot:spot=none:=by
      cases hq:W.cell? (((⟨b,off,spot⟩:Addr).add (0*s.sz)).add 0) with
      |none=>rw [hq] at hcell0;simp at hcell0
      |some u=>simpa [Addr.add] using World.cell?_spot hq
    subst hspot;simp only [n6,Nat.zero_mul,js] at hcell0
    obtain ⟨l,hll,hp⟩:=ygk (p:=fun i (p:T×List Value)=>conf s p.1/\RtL W p.1.cells p.2/\p.2.length=s.sz/\∀ j,j<s.sz->W.cell? ⟨b,off+i*s.sz+j,none⟩=p.2[j]?) len (fun i hi=>by
      obtain ⟨cs',h1,h2⟩:=hall i (by omega);obtain ⟨tr,k1,k2⟩:=ih h2 (zwa.of hh _);obtain ⟨-,hcl,hcc⟩:=World.cells?_some h1
      exact ⟨(tr,cs'),k1,k2,hcl,fun j hj=>by have:=hcc j hj;rw [n6,n6] at this;exact this⟩)
    have hmem:∀ p,p∈l->∃ i,i<l.length/\l[i]?=some p/\conf s p.1/\RtL W p.1.cells p.2/\p.2.length=s.sz:=fun p hp'=>by
      obtain ⟨i,hi,rfl⟩:=m8 hp';exact ⟨i,hi,fm hi,(hp i hi).1,(hp i hi).2.1,(hp i hi).2.2.1⟩
    refine ⟨.lst s.sz (l.map (·.1)),⟨_,rfl,by rw [ft];omega,fun x hx=>?_⟩,.cons ?_ .nil⟩
    . obtain ⟨p,hp1,rfl⟩:=jt.1 hx;obtain ⟨_,_,_,k,_⟩:=hmem p hp1;exact k
    . have:=Rt.lst (W:=W) (e:=s.sz) (l:=l.map (·.1)) (b:=b) (off:=off) (cap:=m) (cs:=(l.map (·.2)).flatten) (RtL.flat fun p hp1=>by obtain ⟨_,_,_,_,k,_⟩:=hmem p hp1;exact k) (fun t ht'=>?_) hpos (by rw [ft];omega) hm hcell0 ?_
      . rw [ft,hll] at this;exact this
      . obtain ⟨p,hp1,rfl⟩:=jt.1 ht';obtain ⟨_,_,_,_,k,k2⟩:=hmem p hp1;rw [k.len,k2]
      . refine zyx (k:=s.sz) (fun c hc=>?_) (fun i c hi=>?_)
        . obtain ⟨p,hp1,rfl⟩:=jt.1 hc;obtain ⟨_,_,_,_,_,k2⟩:=hmem p hp1;exact k2
        . rw [lr] at hi
          cases hq:l[i]? with
          |none=>rw [hq] at hi;simp at hi
          |some p =>
            rw [hq] at hi;simp only [Option.map_some,ff] at hi;subst hi;have hil:=(gh.1 hq).1;have:l[i]=p:=(gh.1 hq).2;have:=(hp i hil).2.2.2;rw [‹l[i]=p›] at this;exact this
theorem yaj {W:World} {k:iy}:∀ (l:List Int),RtL W (l.map (fi k)) (l.map (jm k))
  |[]=>.nil
  |x :: l=>.cons (.int _ _) (yaj l)
theorem beqN {a b:Nat} (h:fy a b=true):a=b:=fl h
mutual
theorem zuu:∀ {s:Sh} {t:gi} {fuel:Nat} {cs:List Value} {x:DataW H×List MemPlace},shOk P s t=true->DataW.trod enc P W 0 (fun _=>true) true fuel t cs=some x->zwa W cs->∃ tr,conf s tr/\RtL W tr.cells cs
  |.int k,t,fuel,cs,x,hs,h,hz=>by
    unfold shOk at hs;split at hs
    . rename_i k' hu;have:k=k':=zAe hs;subst this;obtain ⟨n,rfl,-,hw⟩:=DataW.trod_int hu h;exact ⟨.int k n,⟨n,rfl,hw⟩,.cons (.int k n) .nil⟩
    . simp at hs
  |.bool,t,fuel,cs,x,hs,h,hz=>by
    unfold shOk at hs;split at hs
    . rename_i hu;obtain ⟨b,rfl,-⟩:=DataW.trod_bool hu h;exact ⟨.bool b,⟨b,rfl⟩,.cons (.bool b) .nil⟩
    . simp at hs
  |.str,t,fuel,cs,x,hs,h,hz=>by
    unfold shOk at hs;split at hs
    . rename_i hu;obtain ⟨b,rfl,-,hb⟩:=DataW.trod_string hu h;exact ⟨.str b,⟨b,rfl,hb⟩,.cons (.str b) .nil⟩
    . simp at hs
  |.slice s,t,fuel,cs,x,hs,h,hz=>by
    unfold shOk at hs;split at hs
    . rename_i e hu;simp only [fk] at hs;exact yap hu (beqN hs.1) (zad.1 hs.2.1) (fun h hz=>zuu hs.2.2 h hz) h hz
    . simp at hs
  |.struct l,t,fuel,cs,x,hs,h,hz=>by
    unfold shOk at hs;split at hs
    . rename_i fs hu;simp only [fk] at hs;obtain ⟨xs,n,-,-,hl,hxl,hall⟩:=DataW.trod_struct hu h
      obtain ⟨ts,k1,k2⟩:=z8a (fs:=fs.toList) (o:=0) (pre:=cs) (fuel:=n) hs.2 (fun f hf=>by
        obtain ⟨i,hi,rfl⟩:=m8 hf;have hi':i<fs.size:=by simpa using hi
        have:=hall i fs[i] (lc hi');rw [fm (by omega)] at this
        exact ⟨_,by rw [Array.getElem_toList];exact this⟩) (by rw [hl,beqN hs.1];omega) hz
      rw [gu] at k2;have hlen:cs.take (Sh.szL l)=cs:=io (by rw [hl,beqN hs.1];exact fp _);rw [hlen] at k2;exact ⟨.agg ts,⟨ts,rfl,k1⟩,k2⟩
    . simp at hs
  |.arr k n,t,fuel,cs,x,hs,h,hz=>by
    unfold shOk at hs;split at hs
    . rename_i m e hu;simp only [fk] at hs;obtain ⟨h1,h2,h3,h4⟩:=hs;split at h4
      . rename_i k' he;have hkk:k=k':=zAe h4;subst hkk;have hmn:=beqN h1;subst hmn;obtain ⟨xs,fu,rfl,hx1,hlen,hxl,hel⟩:=DataW.trod_array hu h;have hl:cs.length=m:=by rw [hlen];exact beqN h2
        have key:∀ i,i<m->∃ z,cs[i]?=some (.int k z)/\(Lit.int k z).wf=true:=by
          intro i hi;have h0:=hel i hi;rw [beqN h3,qq,fm (by omega)] at h0;obtain ⟨z,e1,e2,e3⟩:=DataW.trod_int he h0;refine ⟨z,?_,e3⟩;have:(cs.drop i)[0]?=((cs.drop i).take 1)[0]?:=by rw [List.getElem?_take_of_lt (by omega)]
          have e1':(cs.drop i).take 1=[.int k z]:=e1;rw [e1'] at this;simpa using this
        obtain ⟨l,hl2,hp⟩:=ygk (p:=fun i (z:Int)=>cs[i]?=some (.int k z)/\(Lit.int k z).wf=true) m key
        have hcl:cs=l.map (jm k):=by
          apply List.ext_getElem (by rw [hl,ft,hl2]);intro i h1 h2;have:=(hp i (by rw [hl2,<- hl];exact h1)).1;rw [fm h1] at this;rw [List.getElem_map];exact Option.some.inj this
        refine ⟨.agg (l.map (fi k)),⟨⟨l,hl2⟩,rfl,fun x hx=>?_⟩,?_⟩
        . obtain ⟨i,hi,rfl⟩:=m8 hx;exact (hp i hi).2
        . rw [hcl];exact yaj l
      . simp at h4
    . simp at hs
theorem z8a:∀ {l:List Sh} {fs:List Field} {o fuel:Nat} {pre:List Value},yaq P l fs o=true->(∀ f,f∈fs->∃ x,DataW.trod enc P W 0 (fun _=>true) true fuel f.type ((pre.drop f.offset).take (P.cellsOf f.type))=some x)->o+Sh.szL l<=pre.length->zwa W pre->∃ ts,yn5 l ts/\RtL W ts ((pre.drop o).take (Sh.szL l))
  |[],[],o,fuel,pre,hs,h,hl,hz=>⟨[],rfl,by unfold Sh.szL;rw [ou];exact .nil⟩
  |[],_ :: _,o,fuel,pre,hs,h,hl,hz=>by simp [yaq] at hs
  |_ :: _,[],o,fuel,pre,hs,h,hl,hz=>by simp [yaq] at hs
  |s :: l,f :: fs,o,fuel,pre,hs,h,hl,hz=>by
    unfold yaq at hs;unfold Sh.szL at hl ⊢;simp only [fk] at hs;obtain ⟨x,hx⟩:=h f (by simp);rw [beqN hs.1,beqN hs.2.1] at hx;obtain ⟨tr,k1,k2⟩:=zuu hs.2.2.1 hx (hz.sub fun v hv=>List.mem_of_mem_drop (List.mem_of_mem_take hv));obtain ⟨ts,k3,k4⟩:=z8a (o:=o+s.sz) (pre:=pre) (fuel:=fuel) hs.2.2.2 (fun g hg=>h g (by simp [hg])) (by omega) hz;refine ⟨tr.cells++ts,⟨tr,ts,rfl,k1,k3⟩,?_⟩;have:=k2.append k4;rw [show List.take s.sz (List.drop o pre)++List.take (Sh.szL l) (List.drop (o+s.sz) pre)=List.take (s.sz+Sh.szL l) (List.drop o pre) by rw [List.take_add,l6]] at this;exact this
end
theorem zsk {r:Reach} {base:Nat} {u:gi} {a:Addr} {n c:Nat} (h:Cell.okWide P W r base u (.slice (some a) n c)):0<W.heap.size:=by
  have key:Cell.ok P W r base u (.slice (some a) n c)->0<W.heap.size:=fun h=>by
    unfold Cell.ok at h;split at h<;>first|contradiction | (exact h.elim)|skip
    rename_i hq;cases hq;obtain ⟨-,-,-,-,row,cells,hs,-⟩:=h;unfold World.shape? at hs;by_cases hb:0<W.heap.size
    . exact hb
    . rw [Array.getElem?_eq_none (by omega)] at hs;simp at hs
  unfold Cell.okWide at h;split at h<;>first|exact key h|contradiction
theorem ybo {r:Reach} {base:Nat} {u:gi} {cs:Array Value} (h:Cell.okWide P W r base u (.agg cs)):False:=by
  unfold Cell.okWide at h;split at h<;>first|contradiction | (unfold Cell.ok at h;split at h<;>first|contradiction|exact h)
theorem z0m {r:Reach} {base:Nat} {s:Sh} {t:gi} {v:Value} {d:DataW H} {ps:List MemPlace} (hs:shOk P s t=true) (hv:r8 P W r base t v) (h:DataW.Trod enc P W 0 (fun _=>true) true t v d ps):∃ tr,conf s tr/\Rt W tr v:=by
  obtain ⟨fuel,h⟩:=h
  have one:(∀ fs,P.underlying t≠some (.struct fs))->(∀ n e,P.underlying t≠some (.array n e))->(∀ l,s≠.struct l)->(∀ k n,s≠.arr k n)->∃ tr,conf s tr/\Rt W tr v:=fun h1 h2 h3 h4=>by
    have hc:Cell.okWide P W r base t v:=by
      unfold r8 at hv;split at hv
      . rename_i fs hu;exact absurd hu (h1 fs)
      . rename_i n e hu;exact absurd hu (h2 n e)
      . exact hv
    have hcs:v.cells.toList=[v]:=by
      cases v<;>first|rfl|exact (ybo hc).elim
    rw [hcs] at h
    obtain ⟨tr,k1,k2⟩:=zuu hs h (fun x hx ⟨a,n,c,he⟩=>by
      simp only [ic] at hx;subst hx;subst he
      exact zsk hc)
    have ht:tr.cells=[tr]:=by
      cases s with
      |struct l=>exact absurd rfl (h3 l)
      |int k=>obtain ⟨n,rfl,_⟩:=k1;rfl
      |bool=>obtain ⟨n,rfl⟩:=k1;rfl
      |str=>obtain ⟨n,rfl,_⟩:=k1;rfl
      |slice e=>obtain ⟨l,rfl,_⟩:=k1;rfl
      |arr k n=>exact absurd rfl (h4 k n)
    rw [ht] at k2
    cases k2 with
    |cons a _=>exact ⟨tr,k1,a⟩
  cases s with
  |struct l =>
    have hu:∃ fs,P.underlying t=some (.struct fs):=by
      unfold shOk at hs;split at hs
      . rename_i fs hu;exact ⟨fs,hu⟩
      . simp at hs
    obtain ⟨fs,hu⟩:=hu;unfold r8 at hv;rw [hu] at hv;obtain ⟨cs,rfl,-,ts,-,-,hall⟩:=hv
    obtain ⟨tr,k1,k2⟩:=zuu hs h (fun x hx ⟨a,n,c,he⟩=>by
      subst he;obtain ⟨i,hi,hq⟩:=m8 hx;have hi':i<cs.size:=by simpa [Value.cells] using hi
      obtain ⟨u,-,hu2⟩:=hall i _ (lc hi');have:cs[i]=.slice (some a) n c:=by simpa [Value.cells] using hq
      rw [this] at hu2
      exact zsk hu2)
    obtain ⟨ts,rfl,_⟩:=id k1;exact ⟨_,k1,.agg (by simpa [jh,Value.cells] using k2)⟩
  |int k =>
    have:∃ k',P.underlying t=some (.int k'):=by
      unfold shOk at hs;split at hs
      . rename_i k' hu;exact ⟨k',hu⟩
      . simp at hs
    obtain ⟨k',hu⟩:=this;exact one (fun fs hh=>by rw [hu] at hh;simp at hh) (fun n e hh=>by rw [hu] at hh;simp at hh) (fun l hh=>by simp at hh) (fun k n hh=>by simp at hh)
  |bool =>
    have:P.underlying t=some .bool:=by
      unfold shOk at hs;split at hs
      . rename_i hu;exact hu
      . simp at hs
    exact one (fun fs hh=>by rw [this] at hh;simp at hh) (fun n e hh=>by rw [this] at hh;simp at hh) (fun l hh=>by simp at hh) (fun k n hh=>by simp at hh)
  |str =>
    have:P.underlying t=some .string:=by
      unfold shOk at hs;split at hs
      . rename_i hu;exact hu
      . simp at hs
    exact one (fun fs hh=>by rw [this] at hh;simp at hh) (fun n e hh=>by rw [this] at hh;simp at hh) (fun l hh=>by simp at hh) (fun k n hh=>by simp at hh)
  |slice e =>
    have:∃ e,P.underlying t=some (.slice e):=by
      unfold shOk at hs;split at hs
      . rename_i e hu;exact ⟨e,hu⟩
      . simp at hs
    obtain ⟨e',hu⟩:=this;exact one (fun fs hh=>by rw [hu] at hh;simp at hh) (fun n e hh=>by rw [hu] at hh;simp at hh) (fun l hh=>by simp at hh) (fun k n hh=>by simp at hh)
  |arr k n =>
    have hu:∃ m e,P.underlying t=some (.array m e):=by
      unfold shOk at hs;split at hs
      . rename_i m e hu;exact ⟨m,e,hu⟩
      . simp at hs
    obtain ⟨m,e,hu⟩:=hu;unfold r8 at hv;rw [hu] at hv;obtain ⟨cs,rfl,-⟩:=hv;have hnoslice:∀ tr:T,conf (.arr k n) tr->True:=fun _ _=>trivial;have hs0:=hs;unfold shOk at hs0;rw [hu] at hs0;simp only [fk] at hs0;obtain ⟨q1,q2,q3,q4⟩:=hs0;split at q4
    . rename_i k' he;obtain ⟨xs,fu,-,-,hlen,hxlen,hel⟩:=DataW.trod_array hu h
      have hz:zwa W (Value.agg cs).cells.toList:=fun x hx ⟨a,n2,c,he2⟩=>by
        subst he2;obtain ⟨i,hi,hq⟩:=m8 hx;have hl:(Value.agg cs).cells.toList.length=n:=by rw [hlen];exact beqN q2
        have hmn:=beqN q1;have h0:=hel i (by omega);rw [beqN q3,qq] at h0
        cases hxi:xs[i]? with
        |none =>
          rw [hxi] at h0;have:=List.getElem?_eq_none_iff.1 hxi;omega
        |some z =>
          rw [hxi] at h0;obtain ⟨w,e1,-,-⟩:=DataW.trod_int he h0;have e2:((Value.agg cs).cells.toList.drop i)[0]?=(((Value.agg cs).cells.toList.drop i).take 1)[0]?:=by rw [List.getElem?_take_of_lt (by omega)]
          rw [e1,li,js,fm hi,hq] at e2;simp at e2
      obtain ⟨tr,k1,k2⟩:=zuu hs h hz;obtain ⟨a,rfl,_⟩:=id k1;exact ⟨_,k1,.agg (by simpa [jh,Value.cells] using k2)⟩
    . simp at q4
end
def zu8 (w:Nat):Nat:=if w=0 then 0 else ko w+1
theorem zi6 {n:Nat} (h:2<=n):ko n=ko (n / 2)+1:=by
  rw [Nat.log2_def,zAc h]
theorem yim {n:Nat} (h:256<=n):zu8 n=8+zu8 (n / 256):=by
  unfold zu8;rw [zAd (by omega),zAd (by omega)];rw [zi6 (n:=n) (by omega),zi6 (n:=n / 2) (by omega),zi6 (n:=n / 2 / 2) (by omega),zi6 (n:=n / 2 / 2 / 2) (by omega),zi6 (n:=n / 2 / 2 / 2 / 2) (by omega),zi6 (n:=n / 2 / 2 / 2 / 2 / 2) (by omega),zi6 (n:=n / 2 / 2 / 2 / 2 / 2 / 2) (by omega),zi6 (n:=n / 2 / 2 / 2 / 2 / 2 / 2 / 2) (by omega)];rw [show n / 2 / 2 / 2 / 2 / 2 / 2 / 2 / 2=n / 256 by omega];omega
theorem z0w {n:Nat} (h:n<65536):zu8 n<=16:=by
  unfold zu8;split
  . omega
  . have:ko n<16:=(Nat.log2_lt (by omega)).2 h;omega
def yqb (b:ByteArray):Bool:=(List.range 256).all fun k=>if h:k<b.size then fy b[k].toNat (zu8 k) else true
theorem yce {b:ByteArray} (hb:yqb b=true) {k:Nat} (hk:k<256) (h:k<b.size):b[k].toNat=zu8 k:=by
  have:=List.all_eq_true.1 hb k (List.mem_range.2 hk);rw [dif_pos h] at this;exact fl this
theorem z62 (n:Int) (h:-9223372036854775808<=n/\n<=9223372036854775807):qj n=n:=by unfold qj;omega
theorem wrapL {n:Nat} (h:n<=64):qj (qj (n:Int))=n:=by rw [z62 (n:Int) (by omega),z62 _ (by omega)]
set_option maxRecDepth 100000 in
set_option maxHeartbeats 2000000 in
theorem ybp (n:Nat) (W:World) (hn:n<65536):Calls Try.prog 97 #[.int .u16 n] W fun e W'=>e=.returned (.int .i64 (zu8 n))/\W'=W:=by
  go_enter Try.func97,Try.ntmps97
  by_cases h:n<256
  . go_wp2
    go_ret
    refine ⟨?_,rfl⟩;clear W;refine congrArg (fun z=>Ending.returned (.int .i64 z)) ?_;rw [yce (by decide +kernel) h];exact wrapL (Nat.le_trans (z0w hn) (by decide))
  . go_wp2
    go_ret
    refine ⟨?_,rfl⟩;clear W;refine congrArg (fun z=>Ending.returned (.int .i64 z)) ?_;have hk:n / 256<256:=by omega
    have h1:=z0w (n:=n / 256) (by omega);rw [yim (by omega),yce (by decide +kernel) hk,z62 ((zu8 (n / 256):Nat):Int) (by omega),z62 _ (by omega)];rfl
set_option maxRecDepth 100000 in
set_option maxHeartbeats 2000000 in
theorem ygq (n z:Nat) (W:World) (hn:n<65536) (h0:n≠0) (hz:z=15 - ko n):Calls Try.prog 94 #[.int .u16 n] W fun e W'=>e=.returned (.int .i64 (z:Int))/\W'=W:=by
  have h16:=z0w hn;have hl:zu8 n=ko n+1:=by unfold zu8;rw [zAd h0]
  go_enter Try.func94,Try.ntmps94
  go_wp2_with (refine (ybp _ _ hn).mono ?_;rintro e w' ⟨rfl,rfl⟩)
  go_ret
  refine ⟨?_,rfl⟩;refine congrArg (fun z=>Ending.returned (.int .i64 z)) ?_;omega
theorem yfr {v:Value} {m:Nat} (h:i64N v=some m):v=.int .i64 (m:Nat)/\m<9223372036854775808:=by
  unfold i64N at h;split at h
  . rename_i k m';rw [zb7] at h;split at h
    . rename_i h1;simp only [fk] at h1
      have hk:k=.i64:=by
        have:=fl h1.1;cases k<;>first|rfl | (exact absurd this (by decide))
      subst hk;cases h;exact ⟨rfl,zad.1 h1.2⟩
    . cases h
  . cases h
theorem zoj:∀ {n:Nat} {cs:List Value} {l:List Nat},zg5 n cs=some l->l.length=n/\(∀ j,(h:j<l.length)->l[j]<9223372036854775808)/\∀ j,(h:j<l.length)->cs[j]?=some (.int .i64 (l[j]:Nat))
  |0,cs,l,h=>by
    cases cs<;>(simp only [zg5,ff] at h;subst h;exact ⟨rfl,fun j h=>absurd h (ny _),fun j h=>absurd h (ny _)⟩)
  |n+1,[],l,h=>by simp [zg5] at h
  |n+1,v :: cs,l,h=>by
    rw [zg5] at h
    cases hv:i64N v with
    |none=>rw [hv] at h;cases h
    |some m =>
      cases hr:zg5 n cs with
      |none=>rw [hv,hr] at h;cases h
      |some r =>
        rw [hv,hr] at h;cases h;obtain ⟨rfl,hm⟩:=yfr hv;obtain ⟨a,b,c⟩:=zoj hr;refine ⟨by rw [gm,a],fun j hj=>?_,fun j hj=>?_⟩
        . cases j with
          |zero=>exact hm
          |succ j=>exact b j (by simpa using hj)
        . cases j with
          |zero=>rfl
          |succ j=>simpa using c j (by simpa using hj)
def yg7 (W:World) (v:Value) (l:List Nat):Prop:=∃ b o:Nat,v=.pointer (some ⟨b,o,none⟩)/\(∀ j,(h:j<l.length)->l[j]<9223372036854775808)/\∀ j,(h:j<l.length)->W.cell? ⟨b,o+j,none⟩=some (.int .i64 (l[j]:Nat))
theorem zmd {n:Nat} {s s':CS} {v:Value} {l:List Nat} (h:zk4 n s v=some (l,s')):Can s s'/\s'.obj=s.obj/\s'.n=s.n:=by
  unfold zk4 at h;split at h
  . split at h
    . rename_i hr;split at h
      . simp only [ff,fo] at h;obtain ⟨rfl,rfl⟩:=h;refine ⟨zog hr,?_,?_⟩<;>(rw [(zdm hr).2])
      . cases h
    . cases h
  . cases h
theorem zuy {n:Nat} {s s':CS} {v v':Value} {l:List Nat} {σ:Sg} {V:Nat->Prop} {W:World} (h:zk4 n s v=some (l,s')) (hv:VR σ v v') (hr:Rel σ V s W) (hV:zcd V s'):l.length=n/\yg7 W v' l:=by
  unfold zk4 at h;split at h
  . rename_i a;split at h
    . rename_i cs s1 hrr;split at h
      . rename_i l1 hl;simp only [ff,fo] at h;obtain ⟨rfl,rfl⟩:=h;obtain ⟨b,o,z,h1,rfl⟩:=hv.ptr;have hrow:=zp4 hrr hr hV h1;obtain ⟨a1,a2,a3⟩:=zoj hl;refine ⟨a1,b,o+a.off,rfl,a2,fun j hj=>?_⟩;have:=a3 j hj;rw [li] at this;obtain ⟨u',k1,k2⟩:=hrow.2.2.2 _ _ this;rw [k2.int] at k1;rw [Nat.add_assoc];exact k1
      . cases h
    . cases h
  . cases h
theorem yh0 {caps:List Value} {s s':CS} {k:List Nat} (h:zko.key caps s=some (k,s')):Can s s'/\s'.obj=s.obj/\s'.n=s.n:=by
  unfold zko at h;dsimp only at h;split at h
  . split at h
    . rename_i h1;split at h
      . rename_i h2;simp only [ff,fo] at h;obtain ⟨rfl,rfl⟩:=h;obtain ⟨c1,o1,n1⟩:=zmd h1;obtain ⟨c2,o2,n2⟩:=zmd h2;exact ⟨c1.trans c2,o2.trans o1,n2.trans n1⟩
      . cases h
    . cases h
  . cases h
theorem z8b {caps':Array Value} {k:List Nat} {W:World} (h:Now zko caps' k W):∃ p q l m,caps'=#[p,q]/\k=l++m/\l.length=10/\m.length=10/\yg7 W p l/\yg7 W q m:=by
  obtain ⟨σ,V,s,s1,caps,h1,h2,h3,h4,h5⟩:=h;unfold zko at h5;dsimp only at h5;split at h5
  . rename_i p q;split at h5
    . rename_i l s2 hp;split at h5
      . rename_i m s3 hq;simp only [ff,fo] at h5;obtain ⟨rfl,rfl⟩:=h5;obtain ⟨xs⟩:=caps'
        match xs,h1 with
        |[p',q'],h1 =>
          obtain ⟨v1,v2,_⟩:=h1;obtain ⟨c2,o2,n2⟩:=zmd hq;obtain ⟨c1,o1,n1⟩:=zmd hp;obtain ⟨a1,a2⟩:=zuy hp v1 h2 (h3.back c2);obtain ⟨b1,b2⟩:=zuy hq v2 (h2.state o1 n1) h3;exact ⟨p',q',l,m,rfl,rfl,a1,b1,a2,b2⟩
      . cases h5
    . cases h5
  . cases h5
/-! the bits of a word -/
theorem ybr (f:Nat):zv6 f 0=[]:=by cases f<;>rfl
theorem ybs {f w:Nat} (h:w≠0):zv6 (f+1) w=(15 - ko w) :: zv6 f (w - 2 ^ ko w):=by
  rw [zv6,zje h,zt6];rfl
theorem yb4 {f w:Nat} (h:w≠0) (hw:w<2 ^ f):w - 2 ^ ko w<2 ^ (f - 1)/\w - 2 ^ ko w<w/\1<=f:=by
  have h1:ko w<f:=(Nat.log2_lt h).2 hw;have h2:w<2 ^ (ko w+1):=Nat.lt_log2_self;have h3:2 ^ ko w<=w:=qk h;have h4:2 ^ ko w<=2 ^ (f - 1):=mb (by decide) (by omega);have h5:0<2 ^ ko w:=Nat.two_pow_pos _;rw [Nat.pow_succ] at h2;exact ⟨by omega,by omega,by omega⟩
theorem ya3:∀ {i:Nat} {l m:List Nat},(h:i<l.length)->(h2:i<m.length)->∀ s,zpd (s+i) (l.drop i) (m.drop i)=(zv6 17 ((l[i] - (l[i] &&& m[i])) % 65536)).map (16*(s+i)+·)++zpd (s+i+1) (l.drop (i+1)) (m.drop (i+1)):=by
  intro i l m h h2 s;rw [kv h,kv h2,zpd];rfl
theorem yi8 {w:Nat} (x y:BitVec w):x &&& ~~~y=x - (x &&& y):=by
  have h1:(x &&& ~~~y) &&& (x &&& y)=0#w:=by
    apply BitVec.eq_of_getLsbD_eq;intro i hi;simp only [BitVec.getLsbD_and,BitVec.getLsbD_not,hi,decide_true,kg,BitVec.getLsbD_zero];cases x.getLsbD i<;>cases y.getLsbD i<;>rfl
  have h2:(x &&& ~~~y) ||| (x &&& y)=x:=by
    apply BitVec.eq_of_getLsbD_eq;intro i hi;simp only [BitVec.getLsbD_or,BitVec.getLsbD_and,BitVec.getLsbD_not,hi,decide_true,kg];cases x.getLsbD i<;>cases y.getLsbD i<;>rfl
  have h3:=BitVec.add_eq_or_of_and_eq_zero _ _ h1;rw [h2] at h3;exact BitVec.eq_sub_iff_add_eq.2 h3
theorem zpk (w:Nat) {a b:Nat} (ha:a<2 ^ w) (hb:b<2 ^ w):a &&& (2 ^ w - 1 - b)=a - (a &&& b):=by
  have h:=congrArg BitVec.toNat (yi8 (BitVec.ofNat w a) (BitVec.ofNat w b));rw [ov,BitVec.toNat_not,pv,pv,nv ha,nv hb,BitVec.toNat_sub_of_le,ov,pv,pv,nv ha,nv hb] at h
  . exact h
  . rw [BitVec.le_def,ov];exact Nat.and_le_left
theorem zze {a b:Nat} (ha:a<9223372036854775808) (hb:b<9223372036854775808):bits .andNot .i64 (a:Int) (b:Int)=((a - (a &&& b):Nat):Int):=by
  have h:=zpk 64 (a:=a) (b:=b) (by omega) (by omega);show fj.wrap ((jb 64 (a:Int) &&& ~~~jb 64 (b:Int)).toNat:Int)=_;rw [ov,BitVec.toNat_not,lz,lz];rw [show ((a:Int) % ((2 ^ 64:Nat):Int)).toNat=a by omega,show ((b:Int) % ((2 ^ 64:Nat):Int)).toNat=b by omega,h];have hc:a - (a &&& b)<9223372036854775808:=by omega
  generalize a - (a &&& b)=c at *;simp [IntKind.wrap,IntKind.bits,IntKind.signed];split<;>omega
section
open Go Go.RowKit Go.Shelf
attribute [local go_sem] Oper.semAt_some
theorem yox (n:Nat):IntKind.u16.wrap (n:Int)=((n % 65536:Nat):Int):=by
  rw [IntKind.wrap_u16];omega
theorem ygj {w k:Nat} (hw:w<65536) (h0:w≠0) (hk:k=ko w):bits .andNot .u16 (w:Int) (IntKind.u16.wrap (2 ^ k))=((w - 2 ^ k:Nat):Int):=by
  subst hk;have h1:=qk h0;have h2:(2:Int) ^ ko w=((2 ^ ko w:Nat):Int):=by rw [Int.natCast_pow];rfl
  rw [h2,yox,nv (by omega),u16_andNot_nat _ _ hw (by omega)];rw [show 65535 - 2 ^ ko w=2 ^ 16 - 1 - 2 ^ ko w from rfl,zpk 16 hw (by omega),show w &&& 2 ^ ko w=2 ^ ko w from ?_];apply Nat.eq_of_testBit_eq;intro i;rw [Nat.testBit_and,Nat.testBit_two_pow];by_cases h:ko w=i
  . rw [<- h,Nat.testBit_log2 h0];simp
  . simp [h]
set_option maxRecDepth 100000 in
set_option maxHeartbeats 4000000 in
theorem yeb (caps':Array Value) (k:List Nat) (kd l:Nat) (J:List (Nat×Obj)->Nat->World->Prop) (Jx:World->Prop) (W:World)
    (hN:∀ K j W1,J K j W1->Now zko caps' k W1)
    (hY:∀ kd' K j x W1,(zko.xs k)[j]?=some x->J K j W1->YieldAt mo kd' Try.prog l x.toArray W1 fun e W'=>(e=.returned (.bool true)/\J K (j+1) W')\/(e=.returned (.bool false)/\Jx W'))
    (hB:∀ K j W1 W2,J K j W1->Below W1.heap.size W1 W2->J K j W2) (h0:J [] 0 W):CallsIn mo kd Try.prog 93 (#[.func (.yield l) #[] #[]]++caps') W fun e W'=>(∃ v,e=.returned v)/\((∃ K,J K (zko.xs k).length W')\/Jx W'):=by
  obtain ⟨p,q,L,M,rfl,rfl,hL,hM,hp,hq⟩:=z8b (hN [] 0 W h0);obtain ⟨b1,o1,rfl,hLm,hp⟩:=hp;obtain ⟨b2,o2,rfl,hMm,hq⟩:=hq
  have hcells:∀ j W1,J [] j W1->(∀ i,(h:i<L.length)->W1.cell? ⟨b1,o1+i,none⟩=some (.int .i64 (L[i]:Nat)))/\(∀ i,(h:i<M.length)->W1.cell? ⟨b2,o2+i,none⟩=some (.int .i64 (M[i]:Nat))):=by
    intro j W1 hj;obtain ⟨p,q,L',M',e1,e2,hL',hM',hp',hq'⟩:=z8b (hN [] j W1 hj);obtain ⟨rfl,rfl⟩:=List.append_inj e2 (by rw [hL,hL']);obtain ⟨b1',o1',rfl,_,hp'⟩:=hp';obtain ⟨b2',o2',rfl,_,hq'⟩:=hq';simp only [Array.mk.injEq,o6,Value.pointer.injEq,ff,Addr.mk.injEq,and_true] at e1;obtain ⟨⟨rfl,rfl⟩,rfl,rfl⟩:=e1;exact ⟨hp',hq'⟩
  show CallsIn mo kd Try.prog 93 #[.func (.yield l) #[] #[],.pointer (some ⟨b1,o1,none⟩),.pointer (some ⟨b2,o2,none⟩)] W _;obtain ⟨X,hX⟩:∃ X,X=zko.xs (L++M):=⟨_,rfl⟩
  have HX:X=(zpd 0 L M).map fun n=>[.int .i64 (.ofNat n)]:=by
    rw [hX];show (zpd 0 ((L++M).take 10) ((L++M).drop 10)).map _=_;rw [ke (by omega),io (by omega),qr (by omega),i4 (by omega),gl]
  rw [<- hX] at hY ⊢;refine callsIn_of_wp Try.func93 rfl trivial ?_ rfl;simp only [Try.ntmps93,List.size_toArray,gm,ji,fx,i7,Array.replicate_succ,Array.replicate_zero,List.push_toArray,List.append_toArray,gl,gw]
  gi_wp2
  gi_loopw [7] (fun v wr=>∃ i j:Nat,j<=X.length/\i<=10/\v=.int .i64 i/\J [] j wr/\X.drop j=(zpd i (L.drop i) (M.drop i)).map fun n=>[.int .i64 (.ofNat n)])
    (fun v _=>10 - (intOf v).toNat)
  case atStart=>exact ⟨0,0,iw _,iw _,rfl,h0,by rw [gu,gu,gu];exact HX⟩
  case round =>
    obtain ⟨i,j,hjX,hi,rfl,hJ,hd⟩:=hrel;by_cases hlt:i<10
    . obtain ⟨c1,c2⟩:=hcells j _ hJ;have h1:=c1 i (by omega);have h2:=c2 i (by omega);have a1:=hLm i (by omega);have a2:=hMm i (by omega);have hod:=ya3 (i:=i) (l:=L) (m:=M) (by omega) (by omega) 0;rw [i8] at hod;have han:=zze a1 a2;have hle:L[i] - (L[i] &&& M[i])<9223372036854775808:=by omega
      gi_wp2
      gi_region
      rw [yox]
      gi_wp2
      have hJ':=hB [] j wr wr.drew hJ ((Below.refl wr.heap.size wr).drew);clear hJ hcells c1 c2 h1 h2;obtain ⟨w0,hw0⟩:∃ w0,w0=(L[i] - (L[i] &&& M[i])) % 65536:=⟨_,rfl⟩;rw [<- hw0] at hod ⊢;have hw1:w0<65536:=by omega
      rw [hod] at hd;clear hod han hle hw0 a1 a2;obtain ⟨R,hR⟩:∃ R,R=zpd (i+1) (L.drop (i+1)) (M.drop (i+1)):=⟨_,rfl⟩;rw [<- hR] at hd
      gi_loopw [5] (fun v wr=>∃ w f j:Nat,j<=X.length/\v=.int .u16 w/\w<2 ^ f/\f<=16/\J [] j wr/\X.drop j=((zv6 (f+1) w).map (fun x=>16*i+x)++R).map fun n=>[.int .i64 (.ofNat n)])
        (fun v _=>(intOf v).toNat)
      case atStart=>exact ⟨w0,16,j,hjX,rfl,hw1,fp _,hJ',hd⟩
      case round =>
        obtain ⟨w,f,j,hjX,rfl,hw,hf,hJ,hd⟩:=hrel;have hw2:w<65536:=Nat.lt_of_lt_of_le hw (mb (by decide) hf);by_cases h0:w=0
        . subst h0;rw [ybr,qy,gl,hR] at hd
          gi_wp2
          go_roundw
          case rel=>exact ⟨i+1,j,hjX,by omega,by go_num,hJ,hd⟩
          case measure=>simp [intOf];omega
        . obtain ⟨q1,q2,q3⟩:=yb4 h0 hw;obtain ⟨z,hz⟩:∃ z,z=15 - ko w:=⟨_,rfl⟩;have hz15:z<=15:=by omega
          have hlg:ko w<=15:=by
            have:=(Nat.log2_lt h0).2 (show w<2 ^ 16 by omega);omega
          obtain ⟨w2,hw2e⟩:∃ w2,w2=w - 2 ^ ko w:=⟨_,rfl⟩;rw [ybs h0,<- hz,<- hw2e,i6,gw,i6] at hd
          have hjl:j<X.length:=by
            have:=congrArg List.length hd;simp at this;omega
          rw [kv hjl] at hd;obtain ⟨hd1,hd2⟩:=List.cons.inj hd;have hx:X[j]?=some [.int .i64 (.ofNat (16*i+z))]:=by rw [fm hjl,hd1]
          obtain ⟨fn,tmps,assign,body,hy,hR1⟩:=hY (kd - 1) [] j _ wr hx hJ;have hcall:=ygq w z wr hw2 h0 hz;have hcl:=ygj (k:=15 - z) hw2 h0 (by omega);rw [show 15 - z=ko w by omega,<- hw2e,show ko w=15 - z by omega] at hcl
          have hpw:2 ^ (15 - z)<=w/\2 ^ (15 - z)<65536:=by
            have e:15 - z=ko w:=by omega
            rw [e];exact ⟨qk h0,Nat.lt_of_le_of_lt (qk h0) hw2⟩
          rw [<- hw2e] at q1 q2;clear hz hw2e hlg;rw [show qz (16*i+z)=16*(i:Int)+(z:Int) from by simp] at hy;clear hd
          gi_wp2_with (refine ⟨trivial,fun hq=>absurd hq (by simp [mo]),(callsIn_wide.2 hcall).mono ?_⟩;rintro e w' ⟨rfl,rfl⟩)
          refine ⟨fun hq=>absurd hq (by simp [mo]),hR1.mono ?_⟩;rintro e W3 (⟨rfl,hJ3⟩|⟨rfl,hJx3⟩)
          . gi_wp2
            go_roundw
            case rel =>
              exact ⟨w2,f - 1,j+1,by omega,rfl,q1,by omega,hJ3,by rw [hd2,Nat.sub_add_cancel q3]⟩
            case measure =>
              show (w2:Int).toNat<(w:Int).toNat
              omega
          . gi_wp2
            refine bodyPost_ret (results_none rfl _ _ _) rfl ?_;exact ⟨⟨_,rfl⟩,.inr hJx3⟩
    . obtain rfl:i=10:=by omega
      gi_wp2
      go_end0
      rw [i4 (show L.length<=10 by omega)] at hd
      have hjX2:X.length<=j:=by
        have:=congrArg List.length hd;simp [zpd] at this;omega
      obtain rfl:j=X.length:=Nat.le_antisymm hjX hjX2;exact ⟨⟨_,rfl⟩,.inl ⟨_,hJ⟩⟩
theorem ynl:ItOk Try.prog 93 zko where
  can:=fun caps s k s' h _=>yh0 h
  plain:=fun k x hx σ=>by
    obtain ⟨n,_,rfl⟩:=jt.1 hx;exact ⟨pe _ _,trivial⟩
  enter:=enters_of Try.func93 (by kernel_rfl) rfl
  runs:=fun caps' k kd l J Jx W h1 h2 _ _ _ h4 h5=>yeb caps' k kd l J Jx W h1 h4 h2 h5
end
theorem zu1:∀ {n:Nat} {cs:List Value} {L:List Nat},zk5 n cs=some L->L.length=10*n/\∀ i,i<n->zg5 10 (cs.drop (23*i+1))=some (ze1 L i)
  |0,cs,L,h=>by
    simp only [zk5,ff] at h;subst h;exact ⟨rfl,fun i hi=>absurd hi (ny _)⟩
  |n+1,cs,L,h=>by
    rw [zk5] at h
    cases hl:zg5 10 (cs.drop 1) with
    |none=>rw [hl] at h;cases h
    |some l =>
      cases hr:zk5 n (cs.drop 23) with
      |none=>rw [hl,hr] at h;cases h
      |some r =>
        rw [hl,hr] at h;simp only [ff] at h;subst h;obtain ⟨h1,h2⟩:=zu1 hr;have h3:=(zoj hl).1;refine ⟨by rw [f5,h1,h3];omega,fun i hi=>?_⟩
        cases i with
        |zero =>
          rw [Nat.mul_zero,i8,hl];unfold ze1;rw [Nat.mul_zero,gu,<- h3,List.take_left]
        |succ i =>
          have:=h2 i (by omega);rw [l6] at this;rw [show 23*(i+1)+1=23+(23*i+1) by omega,this];unfold ze1;rw [mu,i4 (l:=l) (by omega),gl,h3,show 10*(i+1) - 10=10*i by omega]
def yom (W:World) (p:Option Addr) (n:Nat) (L:List Nat):Prop:=0<n->∃ b o,p=some ⟨b,o,none⟩/\∀ i,i<n->(ze1 L i).length=10/\∀ j,(h:j<(ze1 L i).length)->W.cell? ⟨b,o+23*i+1+j,none⟩=some (.int .i64 ((ze1 L i)[j]:Nat))
theorem zxa {s s':CS} {v:Value} {l:List Nat} (h:zry s v=some (l,s')):Can s s'/\s'.obj=s.obj/\s'.n=s.n:=by
  unfold zry at h;split at h
  . cases h;exact ⟨Can.refl _,rfl,rfl⟩
  . split at h
    . rename_i hr;split at h
      . obtain ⟨_,h⟩:=zdw h;simp only [ff,fo] at h;obtain ⟨rfl,rfl⟩:=h;refine ⟨zog hr,?_,?_⟩<;>(rw [(zdm hr).2])
      . cases h
    . cases h
  . cases h
theorem yam {s s':CS} {v v':Value} {k:List Nat} {σ:Sg} {V:Nat->Prop} {W:World} (h:zry s v=some (k,s')) (hv:VR σ v v') (hr:Rel σ V s W) (hV:zcd V s'):∃ n L p c,k=n :: L/\n<1000000000/\v'=.slice p n c/\yom W p n L:=by
  unfold zry at h;split at h
  . rename_i p c;simp only [ff,fo] at h;obtain ⟨rfl,rfl⟩:=h
    cases p with
    |none =>
      obtain ⟨_,_,rfl⟩:=hv.out;exact ⟨0,[],_,_,rfl,by decide,rfl,fun h=>absurd h (Nat.lt_irrefl _)⟩
    |some a =>
      obtain ⟨b,o,z,h1,a',c',rfl,_⟩:=hv.out;exact ⟨0,[],_,_,rfl,by decide,rfl,fun h=>absurd h (Nat.lt_irrefl _)⟩
  . rename_i a n c;split at h
    . rename_i cs s1 hrr;split at h
      . rename_i l hl;obtain ⟨hn,h⟩:=zdw h;simp only [ff,fo] at h;obtain ⟨rfl,rfl⟩:=h;obtain ⟨b,o,z,h1,a',c',rfl,k1,k2,k3,k4,_⟩:=hv.out;have hrow:=zp4 hrr hr hV h1;have ha:=k4 (by omega);subst ha;refine ⟨n+1,l,_,c',rfl,zad.1 hn,rfl,fun _=>⟨b,o+a.off,rfl,fun i hi=>?_⟩⟩;have h3:=(zu1 hl).2 i hi;obtain ⟨a1,a2,a3⟩:=zoj h3;refine ⟨a1,fun j hj=>?_⟩;have:=a3 j hj;rw [l6,li] at this;obtain ⟨u',q1,q2⟩:=hrow.2.2.2 _ _ this;rw [q2.int] at q1;rw [show o+a.off+23*i+1+j=o+(a.off+(23*i+1)+j) by omega];exact q1
      . cases h
    . cases h
  . cases h
theorem yes {caps:List Value} {s s':CS} {k:List Nat} (h:zhi.key caps s=some (k,s')):Can s s'/\s'.obj=s.obj/\s'.n=s.n:=by
  unfold zhi at h;dsimp only at h;split at h
  . split at h
    . rename_i hr;split at h
      . obtain ⟨c2,o2,n2⟩:=zxa h;have e:=(zdm hr).2;exact ⟨(zog hr).trans c2,by rw [o2,e],by rw [n2,e]⟩
      . cases h
    . cases h
  . cases h
theorem z24 {caps':Array Value} {k:List Nat} {W:World} (h:Now zhi caps' k W):∃ bt ot n L p c,caps'=#[.pointer (some ⟨bt,ot,none⟩)]/\k=n :: L/\n<1000000000/\W.cell? ⟨bt,ot,none⟩=some (.slice p n c)/\yom W p n L:=by
  obtain ⟨σ,V,s,s1,caps,h1,h2,h3,h4,h5⟩:=h;unfold zhi at h5;dsimp only at h5;split at h5
  . rename_i a;split at h5
    . rename_i cs s2 hrr;split at h5
      . rename_i v rest hd;obtain ⟨xs⟩:=caps'
        match xs,h1 with
        |[p'],h1 =>
          obtain ⟨v1,_⟩:=h1;obtain ⟨b,o,z,q1,rfl⟩:=v1.ptr;obtain ⟨c2,o2,n2⟩:=zxa h5;have hrow:=zp4 hrr h2 (h3.back c2) q1;have e:=(zdm hrr).2
          have hv:cs[a.off]?=some v:=by
            have:=li (xs:=cs) (i:=a.off) (j:=0);rw [hd] at this;simpa using this.symm
          obtain ⟨u',w1,w2⟩:=hrow.2.2.2 _ _ hv;obtain ⟨n,L,p,c,rfl,k2,rfl,k4⟩:=yam h5 w2 (h2.state (by rw [e]) (by rw [e])) h3;exact ⟨b,o+a.off,n,L,p,c,rfl,rfl,k2,w1,k4⟩
      . cases h5
    . cases h5
  . cases h5
/-! what the iterator yields, by its place -/
theorem sN_t:∀ {l m:List Nat},l=m->zib l m=true
  |[],_,h=>by subst h;rfl
  |a :: l,_,h=>by subst h;rw [zib,sN_t rfl,jc];rfl
theorem sN_f {l m:List Nat} (h:l≠m):zib l m=false:=by
  cases hb:zib l m with
  |false=>rfl
  |true=>exact absurd (zt9 hb).symm h
theorem zjc:∀ n,(zjd n).length=n
  |0=>rfl
  |n+1=>by rw [zjd,f5,zjc n];rfl
theorem z35:∀ {n i:Nat},i<n->(zjd n)[i]?=some (zwp 1 i 0)
  |0,i,h=>absurd h (ny _)
  |n+1,i,h=>by
    rw [zjd];by_cases hi:i<n
    . rw [gn (by rw [zjc];exact hi),z35 hi]
    . have:i=n:=by omega
      subst this;rw [iq (by rw [zjc];exact fp _),zjc,Nat.sub_self];rfl
theorem z2o (l:List Nat) (k:Nat):∀ {i j:Nat},i<=j->∃ r,zjl l k j=zjl l k i++r
  |i,0,h=>⟨[],by rw [show i=0 by omega];rfl⟩
  |i,j+1,h=>by
    by_cases hi:i=j+1
    . exact ⟨[],by rw [hi,h9]⟩
    . obtain ⟨r,hr⟩:=z2o l k (i:=i) (j:=j) (by omega);exact ⟨_,by rw [zjl,hr,gq]⟩
theorem yg0 (l:List Nat):∀ {i j:Nat},i<=j->∃ r,zc4 l j=zc4 l i++r
  |i,0,h=>⟨[],by rw [show i=0 by omega];rfl⟩
  |i,j+1,h=>by
    by_cases hi:i=j+1
    . exact ⟨[],by rw [hi,h9]⟩
    . obtain ⟨r,hr⟩:=yg0 l (i:=i) (j:=j) (by omega);exact ⟨_,by rw [zc4,hr,gq]⟩
def posF (n:Nat) (l:List Nat) (k i:Nat):Nat:=n+((zc4 l k).length+(zjl l k i).length)
theorem yne {n k i:Nat} {l:List Nat} (hk:k<n) (hi:i<k) (he:ze1 l i=ze1 l k) (z:Nat) (hz:z<2):(zjd n++zc4 l n)[posF n l k i+z]?=some (zwp (2+z) i k):=by
  obtain ⟨r1,h1⟩:=yg0 l (i:=k+1) (j:=n) (by omega);obtain ⟨r2,h2⟩:=z2o l k (i:=i+1) (j:=k) (by omega);rw [h1,zc4,h2,zjl,sN_t he,za5];unfold posF;rw [iq (by rw [zjc];omega),zjc,show n+((zc4 l k).length+(zjl l k i).length)+z - n=(zc4 l k).length+((zjl l k i).length+z) by omega];rw [gq,iq (by omega),Nat.add_sub_cancel_left,gq,gq,iq (by omega),Nat.add_sub_cancel_left]
  match z,hz with
  |0,_=>rfl
  |1,_=>rfl
theorem yhx {n k i:Nat} {l:List Nat} (he:ze1 l i=ze1 l k):posF n l k (i+1)=posF n l k i+2:=by
  unfold posF;rw [zjl,sN_t he,za5,f5];rfl
theorem yhw {n k i:Nat} {l:List Nat} (he:ze1 l i≠ze1 l k):posF n l k (i+1)=posF n l k i:=by
  unfold posF;rw [zjl,sN_f he,zt6,h9]
theorem yph {n k:Nat} {l:List Nat}:posF n l (k+1) 0=posF n l k k:=by
  unfold posF;rw [zc4,f5];rfl
theorem ynf {n:Nat} {l:List Nat}:posF n l n 0=(zjd n++zc4 l n).length:=by
  unfold posF;rw [f5,zjc];rfl
section
open Go Go.RowKit Go.Shelf
attribute [local go_sem] Oper.semAt_some
def nV (l:List Nat):List Value:=l.map fun x=>.int .i64 (x:Nat)
theorem z5w:∀ {n:Nat} {l:List Nat},l.length=n->zet (gc n (.int .i64)) (nV l)=true
  |0,[],_=>rfl
  |n+1,x :: l,h=>by
    rw [jg,nV,i6,zet];have:=z5w (n:=n) (l:=l) (by simpa using h);rw [nV] at this;rw [this];rfl
  |0,_ :: _,h=>by simp at h
  |_+1,[],h=>by simp at h
theorem ypt:∀ {l m:List Nat},l.length=m.length->eqVs (nV l) (nV m)=decide (l=m)
  |[],[],_=>by simp [nV,eqVs]
  |x :: l,y :: m,h=>by
    have ih:=ypt (l:=l) (m:=m) (by simpa using h);rw [nV,nV] at ih;rw [nV,nV,i6,i6,eqVs,ih];by_cases hx:x=y
    . subst hx;simp [znz]
    . have:znz (.int .i64 (x:Nat)) (.int .i64 (y:Nat))=false:=by simp only [znz];rw [beq_eq_false_iff_ne];omega
      rw [this];simp [hx]
  |[],_ :: _,h=>by simp at h
  |_ :: _,[],h=>by simp at h
theorem yqn {P:gt} {t:gi} {sh:List CK} {xs ys:List Value} {r:Bool} (hs:zhe P 10000 t=some (true,sh)) (hx:zet sh xs=true) (hy:zet sh ys=true) (hr:eqVs xs ys=r) (w:World):(ld 10000 t (.agg xs.toArray) (.agg ys.toArray)).run P w=.ok r w :=
  z30 (by rw [<- hr];exact yl4 10000 hs hx hy) w
theorem yfs {l m:List Nat} (hl:l.length=10) (hm:m.length=10) {r:Bool} (hr:decide (l=m)=r) (w:World):(ld 10000 43 (.agg (nV l).toArray) (.agg (nV m).toArray)).run Try.prog w=.ok r w :=
  yqn (sh:=gc 10 (.int .i64)) (by kernel_rfl) (z5w hl) (z5w hm) ((ypt (by rw [hl,hm])).trans hr) w
theorem ygl {W:World} {b o:Nat} {l:List Nat} (hl:l.length=10) (h:∀ j,(hj:j<l.length)->W.cell? ⟨b,o+j,none⟩=some (.int .i64 (l[j]:Nat))):∃ x0 x1 x2 x3 x4 x5 x6 x7 x8 x9:Nat,l=[x0,x1,x2,x3,x4,x5,x6,x7,x8,x9]/\∀ j,(hj:j<10)->W.cell? ⟨b,o+j,none⟩=some (.int .i64 ([x0,x1,x2,x3,x4,x5,x6,x7,x8,x9][j]:Nat)):=by
  match l,hl with
  |[x0,x1,x2,x3,x4,x5,x6,x7,x8,x9],_=>exact ⟨x0,x1,x2,x3,x4,x5,x6,x7,x8,x9,rfl,fun j hj=>h j hj⟩
theorem z25 {σ:Sg} (a b c:Nat):VR σ (.agg #[.int .i64 (.ofNat a),.int .i64 (.ofNat b),.int .i64 (.ofNat c)]) (.agg #[.int .i64 (.ofNat a),.int .i64 (.ofNat b),.int .i64 (.ofNat c)]):=VR.mk ⟨_,rfl,pe _ _,pe _ _,pe _ _,trivial⟩
set_option maxRecDepth 100000 in
set_option maxHeartbeats 4000000 in
theorem ya7 (caps':Array Value) (k:List Nat) (kd l:Nat) (J:List (Nat×Obj)->Nat->World->Prop) (Jx:World->Prop) (W:World)
    (hN:∀ K j W1,J K j W1->Now zhi caps' k W1)
    (hK:∀ K j W1 W2 b o,J K j W1->Below W1.heap.size W1 W2->W1.heap.size<=b->W2.heap[b]?=some o->J ((b,o) :: K) j W2) (hk:∀ K j W1 b o,J K j W1->(b,o)∈K->W1.heap[b]?=some o)
    (hY:∀ kd' K j x W1,(zhi.xs k)[j]?=some x->J K j W1->YieldAt mo kd' Try.prog l x.toArray W1 fun e W'=>(e=.returned (.bool true)/\J K (j+1) W')\/(e=.returned (.bool false)/\Jx W'))
    (hB:∀ K j W1 W2,J K j W1->Below W1.heap.size W1 W2->J K j W2) (h0:J [] 0 W):CallsIn mo kd Try.prog 66 (#[.func (.yield l) #[] #[]]++caps') W fun e W'=>(∃ v,e=.returned v)/\((∃ K,J K (zhi.xs k).length W')\/Jx W'):=by
  obtain ⟨bt,ot,n,L,p0,c0,rfl,rfl,hn,hc0,ht0⟩:=z24 (hN [] 0 W h0)
  have hcells:∀ K j W1,J K j W1->∃ p c,W1.cell? ⟨bt,ot,none⟩=some (.slice p n c)/\yom W1 p n L:=by
    intro K j W1 hj;obtain ⟨bt',ot',n',L',p,c,e1,e2,_,h3,h4⟩:=z24 (hN K j W1 hj);simp only [Array.mk.injEq,o6,Value.pointer.injEq,ff,Addr.mk.injEq,and_true] at e1 e2;obtain ⟨rfl,rfl⟩:=e1;obtain ⟨rfl,rfl⟩:=e2;exact ⟨p,c,h3,h4⟩
  clear ht0;show CallsIn mo kd Try.prog 66 #[.func (.yield l) #[] #[],.pointer (some ⟨bt,ot,none⟩)] W _;have hX:zhi.xs (n :: L)=zjd n++zc4 L n:=rfl;rw [hX] at hY ⊢;refine callsIn_of_wp Try.func66 rfl trivial ?_ rfl;simp only [Try.ntmps66,List.size_toArray,gm,ji,fx,i7,Array.replicate_succ,Array.replicate_zero,List.push_toArray,List.append_toArray,gl,gw]
  gi_wp2
  gi_loopw [10] (fun v wr=>∃ i:Nat,i<=n/\v=.int .i64 i/\J [] i wr) (fun v _=>n - (intOf v).toNat)
  case atStart=>exact ⟨0,iw _,rfl,h0⟩
  case round =>
    obtain ⟨i,hi,rfl,hJ⟩:=hrel;by_cases hlt:i<n
    . have hx:(zjd n++zc4 L n)[i]?=some (zwp 1 i 0):=by rw [gn (by rw [zjc];exact hlt),z35 hlt]
      obtain ⟨fn,tmps,assign,body,hy,hR1⟩:=hY (kd - 1) [] i _ wr hx hJ;unfold zwp at hy;rw [show qz 1=(1:Int) from rfl,show qz i=(i:Int) from rfl,show qz 0=(0:Int) from rfl] at hy
      gi_wp2
      refine ⟨fun hq=>absurd hq (by simp [mo]),hR1.mono ?_⟩;rintro e W3 (⟨rfl,hJ3⟩|⟨rfl,hJx3⟩)
      . gi_wp2
        go_roundw
        case rel=>exact ⟨i+1,by omega,by go_num,hJ3⟩
        case measure=>simp [intOf];omega
      . gi_wp2
        refine bodyPost_ret (results_none rfl _ _ _) rfl ?_;exact ⟨⟨_,rfl⟩,.inr hJx3⟩
    . obtain rfl:i=n:=by omega
      obtain ⟨p,c,hc,-⟩:=hcells [] _ wr hJ
      gi_wp2
      clear hlt hi hc
      gi_loopw [21] (fun v wr=>∃ (K:List (Nat×Obj)) (k:Nat),k<=i/\v=.int .i64 k/\J K (posF i L k 0) wr) (fun v _=>i - (intOf v).toNat)
      case atStart=>exact ⟨[],0,iw _,rfl,hJ⟩
      case round =>
        obtain ⟨K,k,hk1,rfl,hJ⟩:=hrel;by_cases hlt:k<i
        . gi_wp2
          gi_loopw [25] (fun v wr=>∃ (K:List (Nat×Obj)) (m:Nat),m<=k/\v=.int .i64 m/\J K (posF i L k m) wr) (fun v _=>k - (intOf v).toNat)
          case atStart=>exact ⟨K,0,iw _,rfl,hJ⟩
          case round =>
            obtain ⟨K,m,hm1,rfl,hJ⟩:=hrel;by_cases hmk:m<k
            . obtain ⟨p,c,hc,ht⟩:=hcells K _ wr hJ;obtain ⟨b,o,rfl,ht2⟩:=ht (by omega);obtain ⟨e1,c1⟩:=ht2 m (by omega);obtain ⟨e2,c2⟩:=ht2 k (by omega);obtain ⟨x0,x1,x2,x3,x4,x5,x6,x7,x8,x9,hx,d1⟩:=ygl (o:=o+m*23+1) e1 (fun j hj=>by rw [show o+m*23+1+j=o+23*m+1+j by omega];exact c1 j hj);obtain ⟨y0,y1,y2,y3,y4,y5,y6,y7,y8,y9,hy,d2⟩:=ygl (o:=o+k*23+1) e2 (fun j hj=>by rw [show o+k*23+1+j=o+23*k+1+j by omega];exact c2 j hj);have d3:=d1 0 (by decide);have d4:=d2 0 (by decide);simp only [js,List.getElem_cons_zero] at d3 d4;clear c1 c2 ht2 ht;by_cases he:ze1 L m=ze1 L k
              . have q:=fun w=>yfs e1 e2 (zAa he) w;rw [hx,hy] at q;simp only [nV,i6,qy] at q;clear e1 e2 hx hy
                gi_wp2
                gi_region
                gi_wp2
                have hb:Below wr.heap.size wr (wr.alloc (Obj.cells #[jm fj 2,jm fj 3] 3)).drew:=((Below.refl wr.heap.size wr).alloc (fp _) _).drew;have hJ2:=hK K _ wr _ wr.heap.size _ hJ hb (fp _) (World.alloc_heap_new wr _);have hx:∀ z,z<2->(zjd i++zc4 L i)[posF i L k m+z]?=some (zwp (2+z) m k):=fun z hz=>yne hlt hmk he z hz;obtain ⟨K2,hK2⟩:∃ K2,K2=(wr.heap.size,Obj.cells #[jm fj 2,jm fj 3] 3) :: K:=⟨_,rfl⟩;have hin:(wr.heap.size,Obj.cells #[jm fj 2,jm fj 3] 3)∈K2:=by rw [hK2];exact .head _
                rw [<- hK2] at hJ2;obtain ⟨B,hB0⟩:∃ B,B=wr.heap.size:=⟨_,rfl⟩;rw [<- hB0] at hin ⊢;clear hK2 hJ hb d1 d2 d3 d4 q hc hcells hK hB0
                gi_loopw [43] (fun v wr=>∃ (z:Nat),z<=2/\v=.int .i64 z/\J K2 (posF i L k m+z) wr) (fun v _=>2 - (intOf v).toNat)
                case atStart=>exact ⟨0,by decide,rfl,hJ2⟩
                case round =>
                  obtain ⟨z,hz,rfl,hJ⟩:=hrel;by_cases hz2:z<2
                  . have hrow:=hk _ _ _ _ _ hJ hin
                    have hcell:wr.cell? ⟨B,z,none⟩=some (.int .i64 ((2+z:Nat))):=by
                      match z,hz2 with
                      |0,_=>simp [sl,hrow]
                      |1,_=>simp [sl,hrow]
                    obtain ⟨fn,tmps,assign,body,hy,hR1⟩:=hY (kd - 1) K2 _ _ wr (hx z hz2) hJ;unfold zwp at hy;rw [show qz (2+z)=2+(z:Int) from by simp,show qz m=(m:Int) from rfl,show qz k=(k:Int) from rfl] at hy
                    gi_wp2
                    refine ⟨fun hq=>absurd hq (by simp [mo]),hR1.mono ?_⟩;rintro e W3 (⟨rfl,hJ3⟩|⟨rfl,hJx3⟩)
                    . gi_wp2
                      go_roundw
                      case rel=>exact ⟨z+1,by omega,by go_num,hJ3⟩
                      case measure=>simp [intOf];omega
                    . gi_wp2
                      refine bodyPost_ret (results_none rfl _ _ _) rfl ?_;exact ⟨⟨_,rfl⟩,.inr hJx3⟩
                  . obtain rfl:z=2:=by omega
                    gi_wp2
                    exact ⟨⟨K2,m+1,by omega,by go_num,by rw [yhx he];exact hJ⟩,by simp [intOf];omega⟩
              . have q:=fun w=>yfs e1 e2 (zAb he) w;rw [hx,hy] at q;simp only [nV,i6,qy] at q;clear e1 e2 hx hy
                gi_wp2
                gi_region
                gi_wp2
                go_roundw
                case rel=>exact ⟨K,m+1,by omega,by go_num,by rw [yhw he];exact hB _ _ wr wr.drew hJ ((Below.refl wr.heap.size wr).drew)⟩
                case measure=>simp [intOf];omega
            . obtain rfl:m=k:=by omega
              gi_wp2
              go_roundw
              case rel=>exact ⟨K,m+1,by omega,by go_num,by rw [yph];exact hJ⟩
              case measure=>simp [intOf];omega
        . obtain rfl:k=i:=by omega
          gi_wp2
          go_end0
          rw [ynf] at hJ;exact ⟨⟨_,rfl⟩,.inl ⟨_,hJ⟩⟩
theorem yic:ItOk Try.prog 66 zhi where
  can:=fun caps s k s' h _=>yes h
  plain:=fun k x hx σ=>by
    cases k with
    |nil=>simp [zhi] at hx
    |cons n l =>
      have h1:∀ n x,x∈zjd n->RL (VR σ) x x:=by
        intro n
        induction n with
        |zero=>intro x hx;simp [zjd] at hx
        |succ n ih =>
          intro x hx;rw [zjd,ir] at hx;rcases hx with hx|hx
          . exact ih x hx
          . rw [ic] at hx;subst hx;exact ⟨z25 _ _ _,trivial⟩
      have h2:∀ k i x,x∈zjl l k i->RL (VR σ) x x:=by
        intro k i
        induction i with
        |zero=>intro x hx;simp [zjl] at hx
        |succ i ih =>
          intro x hx;rw [zjl,ir] at hx;rcases hx with hx|hx
          . exact ih x hx
          . rw [zb7] at hx;split at hx
            . simp only [List.mem_cons,List.not_mem_nil,or_false] at hx;rcases hx with rfl|rfl<;>exact ⟨z25 _ _ _,trivial⟩
            . simp at hx
      have h3:∀ k x,x∈zc4 l k->RL (VR σ) x x:=by
        intro k
        induction k with
        |zero=>intro x hx;simp [zc4] at hx
        |succ k ih =>
          intro x hx;rw [zc4,ir] at hx;rcases hx with hx|hx
          . exact ih x hx
          . exact h2 k k x hx
      rcases ir.1 hx with hx|hx
      . exact h1 n x hx
      . exact h3 n x hx
  enter:=enters_of Try.func66 (by kernel_rfl) rfl
  runs:=fun caps' k kd l J Jx W h1 h2 _ h4 h5 h6 h7=>ya7 caps' k kd l J Jx W h1 h4 h5 h6 h2 h7
end
end
end Go.Proofs.Ytkfnjbfnkpameaa
