/- Part 5 of the proof of FitKeepsPackets (several texts in one; no further condition). -/
import Derived.Test.YteifcnjpjjaikaaGreatZD
import Derived.Test.YteifcnjpjjaikaaGreatProg
import Derived.KernelRfl
import GoSem.Claim
import Derived.ProofKit
import Derived.OpenShut
import Derived.ShutString
import Derived.ChangeOld
import Derived.Below
import Derived.Carry
import Derived.Deep.Slices
import Derived.SizedLaws
import Derived.JoinedCond
set_option linter.unusedSimpArgs false
set_option linter.unusedVariables false
set_option linter.unusedSectionVars false
namespace Go.Proofs.YteifcnjpjjaikaaGreat
open Go.Addr renaming add_lit->mo
open _root_.And renaming intro->dx
open _root_.Array renaming getElem?_eq_getElem->jq
open _root_.BitVec renaming ofInt->gv
open _root_.Bool renaming and_eq_true->d8,and_self->el,not_eq_false'->oy,not_eq_true'->ny,or_eq_true->kw,true_and->ju
open Go.Proofs.YteifcnjpjjaikaaGreat.Bx renaming le_refl->jt
open _root_.Eq renaming trans->ej
open Go.Proofs.YteifcnjpjjaikaaGreat.Fr renaming get_put_same->ra
open Go renaming IntKind->gl,Operand->ep,Program->fe,TypeId->fc
open Go.Proofs.YteifcnjpjjaikaaGreat.Left renaming trans->qh
open _root_.List renaming all_append->lf,all_cons->ig,all_eq_true->fd,all_nil->od,append_assoc->ey,append_nil->fp,cons_append->fq,drop_append->mh,drop_drop->ks,drop_of_length_le->gu,drop_succ_cons->jp,drop_zero->fl,flatMap_cons->iv,flatten_cons->gh,getD_eq_getElem?_getD->eh,getElem?_append_left->fk,getElem?_append_right->gm,getElem?_cons_zero->fx,getElem?_drop->js,getElem?_eq_getElem->ef,getElem?_eq_some_iff->et,getElem?_map->ki,getElem?_take->mi,getElem_of_mem->lq,length_append->eu,length_cons->ez,length_drop->ir,length_map->ek,length_nil->gd,length_set->lr,length_take->gi,map_cons->ge,mem_cons->ic,mem_map->ip,mem_of_getElem?->ij,mem_of_mem_drop->lm,mem_singleton->jv,nil_append->fb,replicate->ew,replicate_succ->jg,take_append->oc,take_append_drop->jn,take_of_length_le->gc,take_zero->l9
open _root_.Nat renaming add_mul->jc,add_zero->ii,beq->er,ble->gj,blt->fw,eq_of_beq_eq_true->eg,le_refl->ei,le_trans->kh,one_mul->n7,reduceAdd->ed,reduceSub->gw,testBit->gr,testBit_two_pow_sub_one->jw,zero_add->f6,zero_le->gb
open _root_.Option renaming bind_some->dz
open _root_.Option.some renaming injEq->dy
open _root_.Prod.mk renaming injEq->ec
open Go.Proofs.YteifcnjpjjaikaaGreat.T renaming cells->gt,ids->ol,idsL->jb,int->d7
open Go.Proofs.YteifcnjpjjaikaaGreat.TS renaming set_ne->gy,set_same->iu
open Go.Value renaming int->iz,okWide->qx
set_option maxRecDepth 100000
open Go Go.RowKit
section
variable {GL:List (Nat×List Value)} {A A' A2:Nat->Prop} {β β' β2:Bx} {S S' S2:TS} {s s' s2:CS} {P:fe} {Γ:Env} {N:Nat} {h h' h2:Nat->T} {Q R:Exit->(Nat->T)->TS->Prop}
theorem VL.setAt {g:Nat->Fam} {t:T} {v:Value}:∀ {l:List T} {vs:List Value} {i:Nat},VL A β g l vs->vs[i]?=some v->VT A β g t v->VL A β g (l.set i t) vs
  |[],_,_,.nil,_,_=>.nil
  |x :: l,y :: vs,0,.cons k1 k2,hv,ht=>by
    simp only [fx,dy] at hv;subst hv;exact .cons ht k2
  |x :: l,y :: vs,i+1,.cons k1 k2,hv,ht=>.cons k1 (VL.setAt k2 (by simpa using hv) ht)
theorem TW.freezeC {c:Code} (c0 i:Nat) {b e len M N0:Nat} {z z0:Bool} {l l0:List T} (L:List T) (hS0:S.box c0=.cells z0 N0 l0) (hi:l0[i]?=some (.arr b e 0 len len M)) (hne:c0≠b) (hS:S.box b=.cells z M l) (he:0<e) (hoff:0+len*e<=M) (hL:(l.drop 0).take (len*e)=L.flatMap gt) (hs:∀ t,t∈L->t.cells.length=e) (hlen:L.length=len)
    (k:TW P Γ GL N c h ((S.set c0 (.cells z0 N0 (l0.set i (.lst e L)))).set b .gone) Q):TW P Γ GL N c h S Q:=by
  intro A β fr s hF hT;obtain ⟨A',β',k1,k2,k3⟩:=hT.freeze hS;obtain ⟨n0,hc⟩:=hT.cells c0 z0 N0 l0 hS0;have hS0':(S.set b .gone).box c0=.cells z0 N0 l0:=by rw [gy _ _ hne];exact hS0
  obtain ⟨n1,hc'⟩:=k1.cells c0 z0 N0 l0 hS0';have hi0:i<l0.length:=(et.1 hi).1
  have hnew:zqe A' β' (zaa s.obj) c0 z0 N0 (l0.set i (.lst e L)):=by
    rcases hc with ⟨_,q,_⟩|⟨f,u,cs,rest,a1,a2,a3,a4,a5⟩
    . omega
    . rcases hc' with ⟨_,q,_⟩|⟨f',u',cs',rest',b1,b2,b3,b4,b5⟩
      . omega
      . obtain ⟨l',c1,c2⟩:=k2.bx c0 _ a1;rw [b1] at c1;cases c1;simp only [Loc.le] at c2;rcases c2 with ⟨rfl,rfl,_⟩|c2
        . rw [a3] at b3;simp only [Fam.mk.injEq,List.cons.injEq,ec] at b3;obtain ⟨_,⟨⟨_,rfl⟩,rfl⟩,_⟩:=b3;obtain ⟨v,v1,v2⟩:=a4.get hi;refine ⟨by rw [lr];exact n0,.inr ⟨f,u,cs,rest,b1,a2,a3,b4.setAt v1 (k3 v2 he hoff hL hs hlen (ei _)),a5⟩⟩
        . omega
  have hT':TRel GL A' β' ((S.set c0 (.cells z0 N0 (l0.set i (.lst e L)))).set b .gone) s:=by
    refine ⟨k1.inr,k1.inv,k1.alt,k1.dis,k1.inj,k1.next,fun b' z N' l' hb'=>?_,fun b' l' hb'=>?_,k1.glob⟩
    . by_cases e1:b'=b
      . subst e1;rw [iu] at hb';cases hb'
      . rw [gy _ _ e1] at hb';by_cases e2:b'=c0
        . subst e2;rw [iu] at hb';cases hb';exact hnew
        . rw [gy _ _ e2] at hb';exact k1.cells b' z N' l' (by rw [gy _ _ e1];exact hb')
    . by_cases e1:b'=b
      . subst e1;rw [iu] at hb';cases hb'
      . rw [gy _ _ e1] at hb';by_cases e2:b'=c0
        . subst e2;rw [iu] at hb';cases hb'
        . rw [gy _ _ e2] at hb';exact k1.maps b' l' (by rw [gy _ _ e1];exact hb')
  have hF':FrOk A' β' (zaa s.obj) N h fr:=⟨hF.nt,hF.le,fun u=>k2.vt hT (hF.slot u)⟩;refine (k A' β' fr s hF' hT').mono ?_;rintro e2 fr2 s2 ⟨h2,S2,l2,q2⟩;exact ⟨h2,S2,qh (h':=h) (fr':=fr) hT.le k2 l2,q2⟩
theorem TW.nilC {c:Code} (c0 i e:Nat) {N0:Nat} {z0:Bool} {l0:List T} (hS0:S.box c0=.cells z0 N0 l0) (hi:l0[i]?=some .nils) (k:TW P Γ GL N c h (S.set c0 (.cells z0 N0 (l0.set i (.lst e [])))) Q):TW P Γ GL N c h S Q:=by
  intro A β fr s hF hT;obtain ⟨n0,hc⟩:=hT.cells c0 z0 N0 l0 hS0;have hi0:i<l0.length:=(et.1 hi).1
  have hnew:zqe A β (zaa s.obj) c0 z0 N0 (l0.set i (.lst e [])):=by
    rcases hc with ⟨_,q,_⟩|⟨f,u,cs,rest,a1,a2,a3,a4,a5⟩
    . omega
    . obtain ⟨v,v1,v2⟩:=a4.get hi;refine ⟨by rw [lr];exact n0,.inr ⟨f,u,cs,rest,a1,a2,a3,a4.setAt v1 ?_,a5⟩⟩;cases v2;exact .lnil
  have hT':TRel GL A β (S.set c0 (.cells z0 N0 (l0.set i (.lst e [])))) s:=by
    refine ⟨hT.inr,hT.inv,hT.alt,hT.dis,hT.inj,hT.next,fun b' z N' l' hb'=>?_,fun b' l' hb'=>?_,hT.glob⟩
    . by_cases e2:b'=c0
      . subst e2;rw [iu] at hb';cases hb';exact hnew
      . rw [gy _ _ e2] at hb';exact hT.cells b' z N' l' hb'
    . by_cases e2:b'=c0
      . subst e2;rw [iu] at hb';cases hb'
      . rw [gy _ _ e2] at hb';exact hT.maps b' l' hb'
  exact k A β fr s hF hT'
theorem TW.vecC {c:Code} (c0 i e:Nat) {N0:Nat} {z0:Bool} {l0:List T} (hS0:S.box c0=.cells z0 N0 l0) (hi:l0[i]?=some .nils) (h0:c0<S.n) (k:TW P Γ GL N c h ((S.set c0 (.cells z0 N0 (l0.set i (.arr S.n e 0 0 0 0)))).add (.cells false 0 [])) Q):TW P Γ GL N c h S Q:=by
  intro A β fr s hF hT;have hb0:β S.n=none:=hT.next _ (ei _)
  have hle:Bx.le β (bnew β S.n .nil):=zxg hb0;have hse:bnew β S.n .nil S.n=some .nil:=zAc rfl;have hne:∀ b',b'≠S.n->bnew β S.n .nil b'=β b':=fun b' hb'=>zAd hb'
  have hown:∀ f,Own (bnew β S.n .nil) f->Own β f:=fun f ⟨b',hb'⟩=>by
    by_cases hi:b'=S.n
    . subst hi;rw [hse] at hb';rcases hb' with ⟨u,N,hb'⟩|hb'<;>simp at hb'
    . rw [hne b' hi] at hb';exact ⟨b',hb'⟩
  have hst:Stp A β s A (bnew β S.n .nil) s:=⟨Can.refl _,fun _ h=>h,fun _ h=>.inl h,fun f hf=>.inl (hown f hf),fun _ _ _=>rfl,hle,fun _ h=>.inl h,fun _ h=>.inl h⟩;obtain ⟨n0,hc⟩:=hT.cells c0 z0 N0 l0 hS0;have hi0:i<l0.length:=(et.1 hi).1
  have hnew:zqe A (bnew β S.n .nil) (zaa s.obj) c0 z0 N0 (l0.set i (.arr S.n e 0 0 0 0)):=by
    rcases hc with ⟨_,q,_⟩|⟨f,u,cs,rest,a1,a2,a3,a4,a5⟩
    . omega
    . obtain ⟨v,v1,v2⟩:=a4.get hi;have a4':=a4.mono (A':=A) (β':=bnew β S.n .nil) (g':=zaa s.obj) (fun _ h=>h) (fun _ _=>rfl) hle;refine ⟨by rw [lr];exact n0,.inr ⟨f,u,cs,rest,by rw [hne c0 (by omega)];exact a1,a2,a3,a4'.setAt v1 ?_,a5⟩⟩;cases v2;exact .arrNil hse
  have hT':TRel GL A (bnew β S.n .nil) ((S.set c0 (.cells z0 N0 (l0.set i (.arr S.n e 0 0 0 0)))).add (.cells false 0 [])) s:=by
    refine ⟨hT.inr,hT.inv,hT.alt,fun f hf=>hT.dis f (hown f hf),fun b1 b2 l1 l2 f h1 h2 h3 h4=>?_,fun b' hb'=>?_,fun b' z N l hb'=>?_,fun b' l hb'=>?_,hT.glob⟩
    . by_cases e1:b1=S.n
      . subst e1;rw [hse] at h1;cases h1;simp [Loc.fam] at h3
      . by_cases e2:b2=S.n
        . subst e2;rw [hse] at h2;cases h2;simp [Loc.fam] at h4
        . rw [hne b1 e1] at h1;rw [hne b2 e2] at h2;exact hT.inj b1 b2 l1 l2 f h1 h2 h3 h4
    . have:S.n+1<=b':=hb';rw [hne b' (by omega)];exact hT.next b' (by omega)
    . by_cases hi:b'=S.n
      . subst hi;have hq:=(TS.add_same (S.set c0 (.cells z0 N0 (l0.set i (.arr S.n e 0 0 0 0)))) (.cells false 0 [])).symm.trans hb';cases hq;exact ⟨rfl,.inl ⟨hse,rfl,rfl⟩⟩
      . rw [TS.add_ne _ _ (show b'≠(S.set c0 (.cells z0 N0 (l0.set i (.arr S.n e 0 0 0 0)))).n from hi)] at hb';by_cases e2:b'=c0
        . subst e2;rw [iu] at hb';cases hb';exact hnew
        . rw [gy _ _ e2] at hb';exact (hT.cells b' z N l hb').mono (fun _ h=>h) (fun _ _=>rfl) hle (hne b' hi) fun _ _ _ _=>rfl
    . by_cases hi:b'=S.n
      . subst hi;have hq:=(TS.add_same (S.set c0 (.cells z0 N0 (l0.set i (.arr S.n e 0 0 0 0)))) (.cells false 0 [])).symm.trans hb';cases hq
      . rw [TS.add_ne _ _ (show b'≠(S.set c0 (.cells z0 N0 (l0.set i (.arr S.n e 0 0 0 0)))).n from hi)] at hb';by_cases e2:b'=c0
        . subst e2;rw [iu] at hb';cases hb'
        . rw [gy _ _ e2] at hb';exact (hT.maps b' l hb').mono (fun _ h=>h) (fun _ _=>rfl) hle (hne b' hi) fun _ _=>rfl
  have hF':FrOk A (bnew β S.n .nil) (zaa s.obj) N h fr:=⟨hF.nt,hF.le,fun u=>hst.vt hT (hF.slot u)⟩;refine (k A _ fr s hF' hT').mono ?_;rintro e2 fr2 s2 ⟨h2,S2,l2,q2⟩;exact ⟨h2,S2,qh (h':=h) (fr':=fr) hT.le hst l2,q2⟩
end
theorem zo3 {α:Type} (f:α->T) (l:List α):(l.map f).flatMap gt=vecC f l:=rfl
theorem zl8 {α:Type} {f:α->T} (h:∀ x,(f x).cells.all T.one=true):∀ (l:List α),(vecC f l).all T.one=true
  |[]=>rfl
  |x :: l=>by
    have ih:=zl8 h l;unfold vecC at ih ⊢;rw [ge,iv,lf,h,ih];rfl
def Le1:List T->List T->Prop
  |[],[]=>True
  |t :: l,t' :: l'=>(t=t'\/(t=.nils/\∃ e,t'=.lst e []))/\Le1 l l'
  |_,_=>False
def Le2:List T->List T->Prop
  |[],[]=>True
  |t :: l,t' :: l'=>(t=t'\/(t=.nils/\∃ e,t'=.lst e [])\/∃ m m',t=.agg m/\t'=.agg m'/\Le1 m m')/\Le2 l l'
  |_,_=>False
theorem Le1.vl {A:Nat->Prop} {β:Bx} {g:Nat->Fam}:∀ {l l':List T} {vs:List Value},Le1 l l'->VL A β g l vs->VL A β g l' vs
  |[],[],_,_,.nil=>.nil
  |t :: l,t' :: l',_,h,.cons k1 k2=>by
    obtain ⟨h1,h2⟩:=h;rcases h1 with rfl|⟨rfl,e,rfl⟩
    . exact .cons k1 (Le1.vl h2 k2)
    . cases k1;exact .cons .lnil (Le1.vl h2 k2)
theorem Le2.vl {A:Nat->Prop} {β:Bx} {g:Nat->Fam}:∀ {l l':List T} {vs:List Value},Le2 l l'->VL A β g l vs->VL A β g l' vs
  |[],[],_,_,.nil=>.nil
  |t :: l,t' :: l',_,h,.cons k1 k2=>by
    obtain ⟨h1,h2⟩:=h;rcases h1 with rfl|⟨rfl,e,rfl⟩|⟨m,m',rfl,rfl,h3⟩
    . exact .cons k1 (Le2.vl h2 k2)
    . cases k1;exact .cons .lnil (Le2.vl h2 k2)
    . cases k1 with|agg k=>exact .cons (.agg (h3.vl k)) (Le2.vl h2 k2)
theorem zap.nilA {P:fe} {Γ:Env} {GL:List (Nat×List Value)} {f:FuncId} {args args':List T} {S:TS} {v:T} (k:zap P Γ GL f args' S v) (h:Le2 args args'):zap P Γ GL f args S v:=fun A β s vargs hT hv=>k A β s vargs hT (h.vl hv)
theorem Ar.len {n:Nat} (a:Ar n):a.l.length=n:=a.h
def Ar.set {n:Nat} (a:Ar n) (i v:Int):Ar n:=⟨a.l.set i.toNat v,by rw [lr,a.h]⟩
theorem yi7 {k:gl} {n:Nat} (a:Ar n):eAr k a=.agg (a.l.map (d7 k)):=ej rfl rfl
theorem arIx {n:Nat} (a:Ar n) {i:Int} (h:0<=i/\i<(n:Int)):a.l[i.toNat]?=some (gx a.l i):=zah (by rw [a.h];exact h)
theorem arSpl {k:gl} {n:Nat} (a b:Ar n):spl (a.l.map (d7 k)) 0 (b.l.map (d7 k))=b.l.map (d7 k):=by
  unfold spl;rw [l9,fb,gu (by rw [ek,ek,a.h,b.h];omega),fp]
theorem yjx {k:gl} {n:Nat} (a:Ar n) {i:Int} (v:Int) (h:0<=i/\i<(n:Int)):spl (a.l.map (d7 k)) i.toNat [d7 k v]=(a.set i v).l.map (d7 k):=by
  exact z7a (f:=d7 k) (v:=v) (L:=a.l) (i:=i.toNat) (by rw [a.h];omega)
theorem arCp {k:gl} {n:Nat} (a:Ar n) {i:Int} (h:0<=i/\i<(n:Int)):((a.l.map (d7 k)).drop i.toNat)[0]?=some (d7 k (gx a.l i)):=by
  rw [js,ii,ki,arIx a h];rfl
def u8o (z:Int):UInt8:=UInt8.ofNat z.toNat
def strL (l:List Int):ByteArray:=⟨(l.map u8o).toArray⟩
def bytL (s:ByteArray):List Int:=s.data.toList.map fun c=>(c.toNat:Int)
theorem yb6 (s:ByteArray):(bytL s).length=s.size:=by unfold bytL;rw [ek];exact Array.length_toList
theorem z6f (s:ByteArray):z6g s=(bytL s).map (d7 .u8):=by
  unfold z6g bytL;rw [List.map_map];rfl
theorem z20:∀ (l:List Int),yj1 (l.map (d7 .u8))=some (l.map u8o)
  |[]=>rfl
  |x :: l=>by rw [ge];unfold yj1;rw [z20 l];rfl
theorem z89 (l:List Int):(⟨(l.map u8o).toArray⟩:ByteArray)=strL l:=ej rfl rfl
theorem z2q {k:gl}:∀ (l:List Int),(l.map (d7 k)).flatMap gt=l.map (d7 k)
  |[]=>rfl
  |x :: l=>by rw [ge,iv,z2q l];rfl
theorem ypp {k:gl} {l:List Int} {n:Nat} (h:l.length=n):(l.map (d7 k)).take n=l.map (d7 k):=gc (by rw [ek,h];omega)
theorem yej {k:gl} {l:List Int}:(l.map (d7 k)).take l.length=l.map (d7 k):=ypp rfl
def cpA {n:Nat} (a:Ar n) (s:ByteArray):Ar n:=⟨(bytL s).take (min s.size n)++a.l.drop (min s.size n),by rw [eu,gi,ir,yb6,a.h];omega⟩
theorem yo7 {n:Nat} (a:Ar n) (s:ByteArray):spl (a.l.map (d7 .u8)) 0 (((bytL s).map (d7 .u8)).take (min s.size n))=(cpA a s).l.map (d7 .u8):=by
  unfold spl cpA;rw [l9,fb,gi,ek,yb6,List.map_append,List.map_take,List.map_drop,f6];congr 2;omega
theorem yj2 {k:gl} {l:List Int} {n:Nat}:((l.map (d7 k)).take n).all T.one=true:=by rw [<- List.map_take];exact zso _
theorem yo6 {n:Nat}:zd5 n n none none none=some (0,n,n):=ydo (ei _)
theorem yke {k:gl} {n:Nat} (r:Ar n):vecC (eAr k) [r]=r.l.map (d7 k):=by
  unfold vecC;rw [ge,List.map_nil,iv,List.flatMap_nil,fp,z5r]
theorem sub0 {n:Nat}:n - 0=n:=Nat.sub_zero n
theorem yqq {k:gl} {n:Nat}:∀ x:Ar n,(eAr k x).cells.length=n:=zi7
inductive CK where
  |int (k:gl)
  |bool
  |str
def ckV:CK->Value->Bool
  |.int k,.int k' _=>decide (k=k')
  |.bool,.bool _=>true
  |.str,.string _=>true
  |_,_=>false
def zfv:List CK->List Value->Bool
  |[],[]=>true
  |c :: l,v :: m=>ckV c v && zfv l m
  |_,_=>false
def ztn:Value->Value->Bool
  |.int _ a,.int _ b=>a == b
  |.bool a,.bool b=>a == b
  |.string a,.string b=>a == b
  |_,_=>false
def eqVs:List Value->List Value->Bool
  |v :: l,w :: m=>ztn v w && eqVs l m
  |_,_=>true
theorem zrk:∀ {sh:List CK} {xs:List Value},zfv sh xs=true->xs.length=sh.length
  |[],[],_=>rfl
  |_ :: _,_ :: _,h=>by
    simp only [zfv,d8] at h;rw [ez,ez,zrk h.2]
  |[],_ :: _,h=>by simp [zfv] at h
  |_ :: _,[],h=>by simp [zfv] at h
theorem zo4 {c:CK}:∀ {xs:List Value},zfv [c] xs=true->∃ v,xs=[v]/\ckV c v=true
  |[],h=>by simp [zfv] at h
  |[v],h=>⟨v,rfl,by simpa [zfv] using h⟩
  |_ :: _ :: _,h=>by simp [zfv] at h
theorem zsm:∀ {a b:List CK} {xs:List Value},zfv (a++b) xs=true->zfv a (xs.take a.length)=true/\zfv b (xs.drop a.length)=true
  |[],b,xs,h=>⟨by simp [zfv],by simpa using h⟩
  |c :: a,b,[],h=>by simp [zfv] at h
  |c :: a,b,v :: xs,h=>by
    simp only [fq,zfv,d8] at h;obtain ⟨h1,h2⟩:=zsm h.2;exact ⟨by simp only [ez,List.take_succ_cons,zfv,h.1,h1,el],by simpa using h2⟩
theorem zmr:∀ {a b c d:List Value},a.length=c.length->eqVs (a++b) (c++d)=(eqVs a c && eqVs b d)
  |[],b,[],d,_=>rfl
  |x :: a,b,y :: c,d,h=>by
    simp only [fq,eqVs,zmr (Nat.succ.inj h),Bool.and_assoc]
  |[],_,_ :: _,_,h=>by simp at h
  |_ :: _,_,[],_,h=>by simp at h
def valA (a:Bool) (xs:List Value):Value:=if a then .agg xs.toArray else xs.headD undef
noncomputable def zpz (P:fe) (g:fc->Option (Bool×List CK)):List Field->Nat->Option (List CK)
  |[],_=>some []
  |f :: l,off=>match g f.type,(P.info? f.type).map (fun i=>i.size) with
    | some (_, sh), some sz => if f.name ≠ "_" /\ f.offset = off /\ sz = sh.length then
        (match zpz P g l (off+sh.length) with|some r=>some (sh++r)|none=>none) else none
    |_,_=>none
noncomputable def zg5 (P:fe):Nat->fc->Option (Bool×List CK)
  |0,_=>none
  |d+1,t=>match P.underlying t with
    |some (.int k)=>some (false,[.int k])
    |some .bool=>some (false,[.bool])
    |some .string=>some (false,[.str])
    |some (.struct fs)=>if P.stoodInHeld t=true then none else (match zpz P (zg5 P d) fs.toList 0 with|some l=>some (true,l)|none=>none)
    |some (.array n e)=>(match zg5 P d e,(P.info? e).map (fun i=>i.size) with
      |some (_,sh),some sz=>if sz=sh.length then some (true,(ew n sh).flatten) else none
      |_,_=>none)
    |_=>none
section
variable {P:fe}
theorem z2e {α σ:Type} (s0 s1:σ) (f:α->σ->Sem (ForInStep σ)) (b:α->Bool):∀ (l:List α),(∀ x,x∈l->zbl P (f x s0)=some (if b x then .yield s0 else .done s1))->zbl P (forIn l s0 f:Sem σ)=some (if l.all b then s0 else s1)
  |[],_=>by simp;rfl
  |x :: l,h=>by
    rw [List.forIn_cons,zai,h x (.head _)]
    cases hb:b x with
    |true =>
      show zbl P (forIn l s0 f)=_;rw [z2e s0 s1 f b l fun y hy=>h y (.tail _ hy),ig,hb,ju]
    |false =>
      rw [ig,hb,Bool.false_and];rfl
theorem yls {d:Nat} {t:fc} {a:Bool} {sh:List CK} (h:zg5 P d t=some (a,sh)):zbl P (isAgg t)=some a:=by
  cases d with
  |zero=>simp [zg5] at h
  |succ d =>
    unfold zg5 at h;unfold isAgg;rw [zai]
    cases hu:P.underlying t with
    |none=>rw [hu] at h;simp at h
    |some u =>
      rw [hu] at h;rw [zd7 hu]
      cases u with
      |int k=>simp at h;rw [<- h.1];rfl
      |bool=>simp at h;rw [<- h.1];rfl
      |string=>simp at h;rw [<- h.1];rfl
      |struct fs =>
        simp only at h;split at h
        . simp at h
        . split at h
          . simp at h;rw [<- h.1];rfl
          . simp at h
      |array n e =>
        simp only at h;split at h
        . split at h
          . simp at h;rw [<- h.1];rfl
          . simp at h
        . simp at h
      |_=>simp at h
theorem yfa {d:Nat} {t:fc} {sh:List CK} (h:zg5 P d t=some (false,sh)):∃ c,sh=[c]:=by
  cases d with
  |zero=>simp [zg5] at h
  |succ d =>
    unfold zg5 at h;split at h
    . simp at h;exact ⟨_,h.symm⟩
    . simp at h;exact ⟨_,h.symm⟩
    . simp at h;exact ⟨_,h.symm⟩
    . split at h
      . simp at h
      . split at h<;>simp at h
    . split at h
      . split at h<;>simp at h
      . simp at h
    . simp at h
theorem z5m {t:fc} {sz:Nat} (h:(P.info? t).map (fun i=>i.size)=some sz):zbl P (sizeOf t)=some sz:=by
  cases hi:P.info? t with
  |none=>rw [hi] at h;simp at h
  |some i =>
    rw [hi] at h;unfold sizeOf typeInfo;rw [zai,zai];show ((zbl P (match P.info? t with|some i=>pure i|none=>_)).bind _)=_;rw [hi];simp at h;show zbl P (pure i.size)=_;rw [h];rfl
theorem zue {d : Nat} {t : fc} {a : Bool} {sh : List CK} (h : zg5 P d t = some (a, sh)) (hs : (P.info? t).map (fun i => i.size) = some sh.length) (xs : List Value) (off : Nat) (hl : off + sh.length <= xs.length) :
    zbl P (part t xs.toArray off)=some (valA a ((xs.drop off).take sh.length)):=by
  unfold part;rw [zai,yls h]
  cases a with
  |true =>
    show zbl P (do let n <- sizeOf t;pure (Value.agg (xs.toArray.extract off (off+n))))=_;rw [zai,z5m hs];show some (Value.agg (xs.toArray.extract off (off+sh.length)))=_;rw [List.extract_toArray,List.extract_eq_take_drop,Nat.add_sub_cancel_left];rfl
  |false =>
    obtain ⟨c,rfl⟩:=yfa h;simp only [ez,gd,f6] at hl ⊢;show zbl P (match xs.toArray[off]? with|some v=>pure v|none=>_)=_;rw [List.getElem?_toArray,ef (by omega),List.drop_eq_getElem_cons (by omega)];rfl
theorem zz9 {g:fc->Option (Bool×List CK)}:∀ {l:List Field} {off:Nat} {sh:List CK} {xs ys:List Value},zpz P g l off=some sh->xs.length=off+sh.length->ys.length=off+sh.length ->
    (l.all fun f=>match g f.type with|some (_,s)=>eqVs ((xs.drop f.offset).take s.length) ((ys.drop f.offset).take s.length)|none=>true)=eqVs (xs.drop off) (ys.drop off)
  |[],off,sh,xs,ys,h,hx,hy=>by
    simp only [zpz,dy] at h;subst h;rw [gu (by simp at hx;omega),gu (by simp at hy;omega)];rfl
  |f :: l,off,sh,xs,ys,h,hx,hy=>by
    unfold zpz at h;split at h
    . rename_i a s sz hg hs;split at h
      . rename_i hc;split at h
        . rename_i r hr;cases h;rw [eu] at hx hy;rw [ig,zz9 hr (by omega) (by omega),hg];simp only;rw [hc.2.1]
          have hr2:eqVs (xs.drop off) (ys.drop off)=(eqVs ((xs.drop off).take s.length) ((ys.drop off).take s.length) && eqVs (xs.drop (off+s.length)) (ys.drop (off+s.length))):=by
            conv=>lhs;rw [<- jn s.length (xs.drop off),<- jn s.length (ys.drop off)]
            rw [zmr (by rw [gi,gi,ir,ir];omega),ks,ks]
          rw [hr2]
        . cases h
      . cases h
    . cases h
theorem zpy {g : fc -> Option (Bool × List CK)} : ∀ {l : List Field} {off : Nat} {sh : List CK} {xs : List Value}, zpz P g l off = some sh -> xs.length = off + sh.length -> zfv sh (xs.drop off) = true -> ∀ f, f ∈ l -> ∃ a s, g f.type = some (a, s) /\ (P.info? f.type).map (fun i => i.size) = some s.length /\ f.name ≠ "_" /\ f.offset + s.length <= xs.length /\ zfv s ((xs.drop f.offset).take s.length) = true
  |[],off,sh,xs,h,hx,hf,f,hm=>by cases hm
  |f' :: l,off,sh,xs,h,hx,hf,f,hm=>by
    unfold zpz at h;split at h
    . rename_i a s sz hg hs;split at h
      . rename_i hc;split at h
        . rename_i r hr;cases h;rw [eu] at hx;obtain ⟨f1,f2⟩:=zsm hf;rw [ks] at f2
          cases hm with
          |head=>exact ⟨a,s,hg,by rw [hs,hc.2.2],hc.1,by rw [hc.2.1];omega,by rw [hc.2.1];exact f1⟩
          |tail _ hm=>exact zpy hr (by omega) f2 f hm
        . cases h
      . cases h
    . cases h
theorem ybf {s:List CK}:∀ (n k:Nat) {xs ys:List Value},xs.length=(k+n)*s.length->ys.length=(k+n)*s.length ->
    ((List.range' k n).all fun i=>eqVs ((xs.drop (i*s.length)).take s.length) ((ys.drop (i*s.length)).take s.length))=eqVs (xs.drop (k*s.length)) (ys.drop (k*s.length))
  |0,k,xs,ys,hx,hy=>by
    rw [gu (by rw [hx];exact ei _),gu (by rw [hy];exact ei _)];rfl
  |n+1,k,xs,ys,hx,hy=>by
    have e:(k+(n+1))*s.length=k*s.length+s.length+n*s.length:=by rw [jc,jc,n7];omega
    rw [List.range'_succ,ig,ybf n (k+1) (by rw [hx];congr 1;omega) (by rw [hy];congr 1;omega)];rw [jc,n7,<- ks,<- ks,<- zmr (by rw [gi,gi,ir,ir];omega),jn,jn]
theorem z2b {s:List CK}:∀ {n:Nat} {xs:List Value},zfv (ew n s).flatten xs=true->∀ i,i<n->zfv s ((xs.drop (i*s.length)).take s.length)=true
  |0,xs,h,i,hi=>by omega
  |n+1,xs,h,i,hi=>by
    rw [jg,gh] at h;obtain ⟨h1,h2⟩:=zsm h
    cases i with
    |zero=>simpa using h1
    |succ i =>
      have:=z2b h2 i (by omega);rw [ks] at this;rw [jc,n7,Nat.add_comm];exact this
theorem you:∀ (d:Nat) {t:fc} {a:Bool} {sh:List CK},zg5 P d t=some (a,sh)->∀ {xs ys:List Value},zfv sh xs=true->zfv sh ys=true->zbl P (Op.equalIn d t (valA a xs) (valA a ys))=some (eqVs xs ys):=by
  intro d
  induction d with
  |zero=>intro t a sh h;simp [zg5] at h
  |succ d ih =>
    intro t a sh h xs ys hx hy;have hpu:∀ {α:Type} (v:α),zbl P (pure v:Sem α)=some v:=fun v=>rfl;unfold zg5 at h;unfold Op.equalIn;rw [zai]
    cases hu:P.underlying t with
    |none=>rw [hu] at h;simp at h
    |some u =>
      rw [hu] at h;rw [zd7 hu]
      cases u with
      |int k =>
        simp at h;obtain ⟨rfl,rfl⟩:=h;obtain ⟨v,rfl,h1⟩:=zo4 hx;obtain ⟨w,rfl,h2⟩:=zo4 hy
        . cases v<;>simp [ckV] at h1;cases w<;>simp [ckV] at h2;subst h1 h2
          simp [valA,eqVs,ztn,hpu]
      |bool =>
        simp at h;obtain ⟨rfl,rfl⟩:=h;obtain ⟨v,rfl,h1⟩:=zo4 hx;obtain ⟨w,rfl,h2⟩:=zo4 hy
        . cases v<;>simp [ckV] at h1;cases w<;>simp [ckV] at h2
          simp [valA,eqVs,ztn,hpu]
      |string =>
        simp at h;obtain ⟨rfl,rfl⟩:=h;obtain ⟨v,rfl,h1⟩:=zo4 hx;obtain ⟨w,rfl,h2⟩:=zo4 hy
        . cases v<;>simp [ckV] at h1;cases w<;>simp [ckV] at h2
          simp [valA,eqVs,ztn,hpu]
      |struct fs =>
        simp only at h;split at h
        . simp at h
        . rename_i hst;split at h
          . rename_i l hl;simp at h;obtain ⟨rfl,rfl⟩:=h;have lx:=zrk hx;have ly:=zrk hy;have hall:=zz9 hl (by rw [lx];omega) (by rw [ly];omega);rw [fl,fl] at hall;simp only [valA,if_true,dz];rw [zai];show (((some P:Option fe)).bind _)=_;simp only [dz,zAd hst];rw [zai];show ((zbl P (forIn fs _ _)).bind _)=_;rw [<- Array.forIn_toList];rw [z2e (P:=P) (none,()) (some false,()) _ (fun f=>match zg5 P d f.type with|some (_,s)=>eqVs ((xs.drop f.offset).take s.length) ((ys.drop f.offset).take s.length)|none=>true) fs.toList ?_]
            . rw [hall];cases eqVs xs ys<;>rfl
            . intro f hf;obtain ⟨a,s,g1,g2,g3,g4,g5⟩:=zpy hl (by rw [lx];omega) (by rw [fl];exact hx) f hf;obtain ⟨a',s',g1',_,_,g4',g5'⟩:=zpy hl (by rw [ly];omega) (by rw [fl];exact hy) f hf;rw [g1] at g1';cases g1';rw [zAc g3,zai,zue g1 g2 _ _ g4];simp only [dz];rw [zai,zue g1 g2 _ _ g4'];simp only [dz];rw [zai,ih g1 g5 g5',g1];simp only [dz];have hq:∀ q:Bool,zbl P (if (!q)=true then pure (ForInStep.done (some false,())) else pure (ForInStep.yield (none,())):Sem (ForInStep (Option Bool×Unit)))=some (if q=true then .yield (none,()) else .done (some false,())):=by intro q;cases q<;>rfl
              exact hq _
          . simp at h
      |array n e =>
        simp only at h;split at h
        . rename_i ae se sz hse hsz;split at h
          . rename_i hc;subst hc;simp at h;obtain ⟨rfl,rfl⟩:=h;have lx:=zrk hx;have ly:=zrk hy;have hlen:(ew n se).flatten.length=n*se.length:=by simp
            rw [hlen] at lx ly;simp only [valA,if_true,dz];rw [zai,z5m hsz];simp only [dz,z5d];rw [zai,z2e (P:=P) (none,()) (some false,()) _ (fun i=>eqVs ((xs.drop (i*se.length)).take se.length) ((ys.drop (i*se.length)).take se.length)) (List.range' 0 n) ?_]
            . rw [ybf n 0 (by rw [lx];congr 1;omega) (by rw [ly];congr 1;omega),Nat.zero_mul,fl,fl];cases eqVs xs ys<;>rfl
            . intro i hi;have hin:i<n:=by have:=List.mem_range'_1.1 hi;omega
              have hle:i*se.length+se.length<=n*se.length:=by
                have:=Nat.mul_le_mul_right se.length (show i+1<=n by omega);rw [jc,n7] at this;exact this
              rw [zai,zue hse hsz _ _ (by omega)];simp only [dz];rw [zai,zue hse hsz _ _ (by omega)];simp only [dz];rw [zai,ih hse (z2b hx i hin) (z2b hy i hin)];simp only [dz];have hq:∀ q:Bool,zbl P (if (!q)=true then pure (ForInStep.done (some false,())) else pure (ForInStep.yield (none,())):Sem (ForInStep (Option Bool×Unit)))=some (if q=true then .yield (none,()) else .done (some false,())):=by intro q;cases q<;>rfl
              exact hq _
          . simp at h
        . simp at h
      |_=>simp at h
variable {Γ:Env} {S:TS} {t:fc} {x y:ep}
theorem z05 {sh:List CK} {l m:List T} {vs ws:List Value} (ht:zg5 P 10000 t=some (true,sh)) (hq:P.eqGuardType P.depth t=false) (hl:zgi l=some vs) (hm:zgi m=some ws) (hx:zfv sh vs=true) (hy:zfv sh ws=true) {b:Bool} (hb:eqVs vs ws=b) :
    tBin P Γ S t .eql x y (.agg l) (.agg m)=some (.bool b)/\tBin P Γ S t .neq x y (.agg l) (.agg m)=some (.bool (!b)):=by
  have h:zbl P (Op.equal t (.agg vs.toArray) (.agg ws.toArray))=some b:=by rw [<- hb];exact you 10000 ht hx hy
  have hg:∀ op,op=.eql\/op=.neq->zbl P (eqGuard op t x y (.agg vs.toArray) (.agg ws.toArray))=some ():=by
    intro op hop;rcases hop with rfl|rfl
    . show zbl P (if !(P.eqGuardType P.depth t) then pure () else _)=some ();rw [hq];rfl
    . show zbl P (if !(P.eqGuardType P.depth t) then pure () else _)=some ();rw [hq];rfl
  have he:zbl P (binOp .eql t (.agg vs.toArray) (.agg ws.toArray))=some (.bool b):=by
    show zbl P (do pure (Value.bool (<- Op.equal t (.agg vs.toArray) (.agg ws.toArray))):Sem Value)=_;rw [zai,h];rfl
  have hn:zbl P (binOp .neq t (.agg vs.toArray) (.agg ws.toArray))=some (.bool (!b)):=by
    show zbl P (do pure (Value.bool (!(<- Op.equal t (.agg vs.toArray) (.agg ws.toArray)))):Sem Value)=_;rw [zai,h];rfl
  constructor
  . show zpt P t .eql x y _ _=_;unfold zpt;rw [hl,hm];simp only;rw [zai,hg _ (.inl rfl)];show (match zbl P (binOp .eql t (.agg vs.toArray) (.agg ws.toArray)) with|some (.bool r)=>some (T.bool r)|_=>none)=_;rw [he]
  . show zpt P t .neq x y _ _=_;unfold zpt;rw [hl,hm];simp only;rw [zai,hg _ (.inr rfl)];show (match zbl P (binOp .neq t (.agg vs.toArray) (.agg ws.toArray)) with|some (.bool r)=>some (T.bool r)|_=>none)=_;rw [hn]
theorem zmf:∀ {a b:List T} {x y:List Value},zgi a=some x->zgi b=some y->zgi (a++b)=some (x++y)
  |[],b,x,y,h,h2=>by simp only [zgi,dy] at h;subst h;exact h2
  |t :: a,b,x,y,h,h2=>by
    unfold zgi at h;split at h
    . rename_i v r e1 e2;cases h;rw [fq];unfold zgi;rw [e1,zmf e2 h2];rfl
    . cases h
theorem z5n {k:gl}:∀ {a b:List Int},a.length=b.length->eqVs (a.map (iz k)) (b.map (iz k))=decide (a=b)
  |[],[],_=>rfl
  |x :: a,y :: b,h=>by
    rw [ge,ge,eqVs,z5n (Nat.succ.inj h)];simp only [ztn,List.cons.injEq,Bool.decide_and]
    congr 1
  |[],_ :: _,h=>by simp at h
  |_ :: _,[],h=>by simp at h
theorem z8h {k:gl} {n:Nat} (a b:Ar n):eqVs (a.l.map (iz k)) (b.l.map (iz k))=decide (a=b):=by
  rw [z5n (by rw [a.h,b.h])];exact decide_eq_decide.2 (Ar.eq_iff.symm)
theorem z5g {k:gl}:∀ {l:List Int} {r:List CK} {vs:List Value},zfv r vs=true->zfv (ew l.length (.int k)++r) (l.map (iz k)++vs)=true
  |[],r,vs,h=>h
  |x :: l,r,vs,h=>by
    rw [ez,jg,ge,fq,fq,zfv,z5g h];simp [ckV]
end
section
variable {k:gl} {n m:Nat} (a b:Ar n) (r xs:List T)
theorem sgT (h:n<=m):(a.l.map (d7 k)++r).take m=a.l.map (d7 k)++r.take (m - n):=by
  rw [oc,gc (by rw [ek,a.h];exact h),ek,a.h]
theorem sgT1 (h:n<=m):(a.l.map (d7 k)).take m=a.l.map (d7 k):=gc (by rw [ek,a.h];exact h)
theorem sgD (h:n<=m):(a.l.map (d7 k)++r).drop m=r.drop (m - n):=by
  rw [mh,gu (by rw [ek,a.h];exact h),fb,ek,a.h]
theorem sgD1 (h:n<=m):(a.l.map (d7 k)).drop m=[]:=gu (by rw [ek,a.h];exact h)
theorem sgG (h:n<=m):(a.l.map (d7 k)++r)[m]?=r[m - n]?:=by
  rw [gm (by rw [ek,a.h];exact h),ek,a.h]
theorem splA:spl (a.l.map (d7 k)++r) 0 (b.l.map (d7 k)++xs)=b.l.map (d7 k)++spl r 0 xs:=by
  unfold spl;rw [l9,l9,fb,fb,ey,f6,f6,eu,ek,b.h,<- ks];congr 3;rw [mh,gu (by rw [ek,a.h];exact ei _),ek,a.h,Nat.sub_self];rfl
theorem yr2:spl (a.l.map (d7 k)++r) 0 (b.l.map (d7 k))=b.l.map (d7 k)++r:=by
  have:=splA (k:=k) a b r [];rw [fp] at this;rw [this,ypv]
theorem yr1:spl (a.l.map (d7 k)) 0 (b.l.map (d7 k))=b.l.map (d7 k):=arSpl a b
theorem splS (h:n<=m):spl (a.l.map (d7 k)++r) m xs=a.l.map (d7 k)++spl r (m - n) xs:=by
  unfold spl;rw [sgT a r h,mh,gu (by rw [ek,a.h];omega),ek,a.h,fb];simp only [ey];congr 4;omega
theorem yfb (v:T) (h:n<=m):(a.l.map (d7 k)++r).set m v=a.l.map (d7 k)++r.set (m - n) v:=by
  rw [List.set_append,zAd (by rw [ek,a.h];omega),ek,a.h]
end
theorem zn8 {k:gl} {n off:Nat} {L r:List T} (a:Ar n) {i:Int} (h:0<=i/\i<(n:Int)) (hL:L.drop off=a.l.map (d7 k)++r:=by first|rfl | (simp (disch:=decide) only [ey,fp,eu,fq,fb,ek,ez,gd,Ar.len,sgD,sgD1,jp,fl,gw,ed,f6];done)):L[off+i.toNat]?=some (d7 k (gx a.l i)):=by
  rw [<- js,hL,fk (by rw [ek,a.h];omega),ki,arIx a h];rfl
theorem zn7 {k:gl} {n:Nat} {L r:List T} (a:Ar n) {i:Int} (h:0<=i/\i<(n:Int)) (hL:L=a.l.map (d7 k)++r:=by first|rfl | (simp (disch:=decide) only [ey,fp,eu,fq,fb,ek,ez,gd,Ar.len,sgD,sgD1,jp,fl,gw,ed,f6];done)):L[i.toNat]?=some (d7 k (gx a.l i)):=by
  have:=zn8 (off:=0) (L:=L) a h (by rw [fl];exact hL)
  rwa [f6] at this
theorem setAt {k:gl} {n off:Nat} {L L2 p r:List T} (a:Ar n) {i:Int} (v:Int) (h:0<=i/\i<(n:Int)) (hL:L=p++(a.l.map (d7 k)++r):=by first|rfl | (simp (disch:=decide) only [ey,fp,eu,fq,fb,ek,ez,gd,Ar.len,sgD,sgD1,jp,fl,gw,ed,f6];done)) (hp:p.length=off:=by first|rfl | (simp (disch:=decide) only [ey,fp,eu,fq,fb,ek,ez,gd,Ar.len,sgD,sgD1,jp,fl,gw,ed,f6];done)) (h2:L2=p++((a.set i v).l.map (d7 k)++r):=by first|rfl | (simp (disch:=decide) only [ey,fp,eu,fq,fb,ek,ez,gd,Ar.len,sgD,sgD1,jp,fl,gw,ed,f6];done)):spl L (off+i.toNat) [d7 k v]=L2:=by
  subst hL h2;have hs:=yjx (k:=k) a v h;unfold spl at hs ⊢;have hi:i.toNat+1<=n:=by omega
  rw [<- hs];simp only [ez,gd,f6];rw [oc,gc (show p.length<=off+i.toNat by omega),show off+i.toNat - p.length=i.toNat by omega,List.take_append_of_le_length (by rw [ek,a.h];omega)];rw [mh,gu (show p.length<=off+i.toNat+1 by omega),show off+i.toNat+1 - p.length=i.toNat+1 by omega,fb,List.drop_append_of_le_length (by rw [ek,a.h];omega)];simp only [ey]
theorem yfd {k:gl} {n:Nat} {L L2 r:List T} (a:Ar n) {i:Int} (v:Int) (h:0<=i/\i<(n:Int)) (hL:L=a.l.map (d7 k)++r:=by first|rfl | (simp (disch:=decide) only [ey,fp,eu,fq,fb,ek,ez,gd,Ar.len,sgD,sgD1,jp,fl,gw,ed,f6];done)) (h2:L2=(a.set i v).l.map (d7 k)++r:=by first|rfl | (simp (disch:=decide) only [ey,fp,eu,fq,fb,ek,ez,gd,Ar.len,sgD,sgD1,jp,fl,gw,ed,f6];done)):spl L i.toNat [d7 k v]=L2:=by
  have:=setAt (off:=0) (p:=[]) (L:=L) (L2:=L2) a v h hL rfl h2
  rwa [f6] at this
/-! bits of integers -/
def iAnd (k:gl) (a b:Int):Int:=k.wrap (gv k.bits a &&& gv k.bits b).toNat
def iOr (k:gl) (a b:Int):Int:=k.wrap (gv k.bits a ||| gv k.bits b).toNat
def iXor (k:gl) (a b:Int):Int:=k.wrap (gv k.bits a ^^^ gv k.bits b).toNat
def z79 (k:gl) (a b:Int):Int:=k.wrap (gv k.bits a &&& ~~~ gv k.bits b).toNat
theorem yni {k:gl} {a b:Int}:zcz .and k k a b=some (.int k (iAnd k a b)):=ysu
theorem ysr {k:gl} {a b:Int}:zcz .or k k a b=some (.int k (iOr k a b)):=ib_or
theorem ynh {k:gl} {a b:Int}:zcz .xor k k a b=some (.int k (iXor k a b)):=yst
theorem yhl {k:gl} {a b:Int}:zcz .andNot k k a b=some (.int k (z79 k a b)):=by simp [zcz,z79]
theorem z7c {t:T} {l:List T} {v:Value} {r:List Value} (h:yfg t=some v) (k:zgi l=some r):zgi (t :: l)=some (v :: r):=by
  unfold zgi;rw [h,k]
theorem yif {c:CK} {v:Value} {r:List CK} {vs:List Value} (h:ckV c v=true) (k:zfv r vs=true):zfv (c :: r) (v :: vs)=true:=by
  rw [zfv,h,k];rfl
theorem ys6 (k:gl) (n:Int):ckV (.int k) (.int k n)=true:=by simp [ckV]
theorem z8c {k:gl} {n:Nat} (a:Ar n) {r:List CK} {vs:List Value} (h:zfv r vs=true):zfv (ew n (.int k)++r) (a.l.map (iz k)++vs)=true:=by
  have:=z5g (k:=k) (l:=a.l) h
  rwa [a.h] at this
theorem ya5 {k:gl} {n:Nat} (a:Ar n):zfv (ew n (.int k)) (a.l.map (iz k))=true:=by
  have:=z8c (k:=k) a (r:=[]) (vs:=[]) rfl
  rwa [fp,fp] at this
theorem yi3 {k:gl} {n:Nat} (a b:Ar n) (x y:List Value):eqVs (a.l.map (iz k)++x) (b.l.map (iz k)++y)=(decide (a=b) && eqVs x y):=by
  rw [zmr (by rw [ek,ek,a.h,b.h]),z8h]
theorem yhw {k:gl} {m:Nat} (l:List Int):(T.agg (l.map (d7 k))).ids m=true:=zeg l
theorem yjy (l:List T):l++[]=l:=fp l
theorem z6o (a b c:List T):a++b++c=a++(b++c):=ey a b c
theorem zv8 (a b:List T):(a++b).length=a.length+b.length:=eu
theorem z2z (a b:List T) (p:T->Bool):(a++b).all p=(a.all p && b.all p):=lf
theorem z3b (n:Nat):([]:List T).take n=[]:=List.take_nil
theorem z5s (n:Nat):([]:List T).drop n=[]:=List.drop_nil
noncomputable def LL:List Nat:=[3,4,5,6,7,8,9,10,11,12,13,14,15,16,17,18,19,20,21,22,23,24,25,26,27,28,29,30,31,32,33,34,35,36,37,38,39,40,41,42,43,44,45,46,47,48,49,50,51,52,53,54,55,56,57,58,59,60,61,62,63,64,65,66,67,68,69,70,71,72,73,74,75,76,77,78,79,80,81,82,83,84,85,86,87,88,89,90,91,92,93,94,95,96,97,98,99,100,101,102,103,104,105,106,107,108,109,110,111,112,113,114,115,116,117,118,119,120,121,122,123,124,125,126,127,128,129,130,131,132,133,134,135,136]
def GG:List Nat:=[]
noncomputable def EE (ax:Axs):Env:=zeh Tryz.prog LL ax
theorem zbq (ax:Axs):zei Tryz.prog (EE ax):=yi4 _ _ _
theorem zri:zj8 Tryz.prog GG LL=true:=by kernel_rfl
theorem z7u:Tryz.prog.follows .mixedOrders=true:=by kernel_rfl
noncomputable def aggO:Option (List T)->Option T
  |some l=>some (.agg l)
  |none=>none
theorem fn5 (ax:Axs):(EE ax).fn.at 5=some Tryz.f5:=by kernel_rfl
theorem fn7 (ax:Axs):(EE ax).fn.at 7=some Tryz.f7:=by kernel_rfl
theorem fn8 (ax:Axs):(EE ax).fn.at 8=some Tryz.f8:=by kernel_rfl
theorem fn9 (ax:Axs):(EE ax).fn.at 9=some Tryz.f9:=by kernel_rfl
theorem fn11 (ax:Axs):(EE ax).fn.at 11=some Tryz.f11:=by kernel_rfl
theorem fn20 (ax:Axs):(EE ax).fn.at 20=some Tryz.f20:=by kernel_rfl
theorem fn22 (ax:Axs):(EE ax).fn.at 22=some Tryz.f22:=by kernel_rfl
theorem fn25 (ax:Axs):(EE ax).fn.at 25=some Tryz.f25:=by kernel_rfl
theorem fn27 (ax:Axs):(EE ax).fn.at 27=some Tryz.f27:=by kernel_rfl
theorem fn28 (ax:Axs):(EE ax).fn.at 28=some Tryz.f28:=by kernel_rfl
theorem fn29 (ax:Axs):(EE ax).fn.at 29=some Tryz.f29:=by kernel_rfl
theorem fn30 (ax:Axs):(EE ax).fn.at 30=some Tryz.f30:=by kernel_rfl
theorem fn31 (ax:Axs):(EE ax).fn.at 31=some Tryz.f31:=by kernel_rfl
theorem fn35 (ax:Axs):(EE ax).fn.at 35=some Tryz.f35:=by kernel_rfl
theorem fn37 (ax:Axs):(EE ax).fn.at 37=some Tryz.f37:=by kernel_rfl
theorem fn38 (ax:Axs):(EE ax).fn.at 38=some Tryz.f38:=by kernel_rfl
theorem fn39 (ax:Axs):(EE ax).fn.at 39=some Tryz.f39:=by kernel_rfl
theorem fn43 (ax:Axs):(EE ax).fn.at 43=some Tryz.f43:=by kernel_rfl
theorem fn52 (ax:Axs):(EE ax).fn.at 52=some Tryz.f52:=by kernel_rfl
theorem fn53 (ax:Axs):(EE ax).fn.at 53=some Tryz.f53:=by kernel_rfl
theorem fn54 (ax:Axs):(EE ax).fn.at 54=some Tryz.f54:=by kernel_rfl
theorem fn55 (ax:Axs):(EE ax).fn.at 55=some Tryz.f55:=by kernel_rfl
theorem fn56 (ax:Axs):(EE ax).fn.at 56=some Tryz.f56:=by kernel_rfl
theorem fn57 (ax:Axs):(EE ax).fn.at 57=some Tryz.f57:=by kernel_rfl
theorem fn58 (ax:Axs):(EE ax).fn.at 58=some Tryz.f58:=by kernel_rfl
theorem fn59 (ax:Axs):(EE ax).fn.at 59=some Tryz.f59:=by kernel_rfl
theorem fn60 (ax:Axs):(EE ax).fn.at 60=some Tryz.f60:=by kernel_rfl
theorem fn61 (ax:Axs):(EE ax).fn.at 61=some Tryz.f61:=by kernel_rfl
theorem fn62 (ax:Axs):(EE ax).fn.at 62=some Tryz.f62:=by kernel_rfl
theorem fn63 (ax:Axs):(EE ax).fn.at 63=some Tryz.f63:=by kernel_rfl
theorem fn64 (ax:Axs):(EE ax).fn.at 64=some Tryz.f64:=by kernel_rfl
theorem fn65 (ax:Axs):(EE ax).fn.at 65=some Tryz.f65:=by kernel_rfl
theorem fn66 (ax:Axs):(EE ax).fn.at 66=some Tryz.f66:=by kernel_rfl
theorem fn67 (ax:Axs):(EE ax).fn.at 67=some Tryz.f67:=by kernel_rfl
theorem fn70 (ax:Axs):(EE ax).fn.at 70=some Tryz.f70:=by kernel_rfl
theorem fn73 (ax:Axs):(EE ax).fn.at 73=some Tryz.f73:=by kernel_rfl
theorem fn74 (ax:Axs):(EE ax).fn.at 74=some Tryz.f74:=by kernel_rfl
theorem fn76 (ax:Axs):(EE ax).fn.at 76=some Tryz.f76:=by kernel_rfl
theorem fn77 (ax:Axs):(EE ax).fn.at 77=some Tryz.f77:=by kernel_rfl
theorem fn78 (ax:Axs):(EE ax).fn.at 78=some Tryz.f78:=by kernel_rfl
theorem fn82 (ax:Axs):(EE ax).fn.at 82=some Tryz.f82:=by kernel_rfl
theorem fn85 (ax:Axs):(EE ax).fn.at 85=some Tryz.f85:=by kernel_rfl
theorem fn87 (ax:Axs):(EE ax).fn.at 87=some Tryz.f87:=by kernel_rfl
theorem fn88 (ax:Axs):(EE ax).fn.at 88=some Tryz.f88:=by kernel_rfl
theorem fn89 (ax:Axs):(EE ax).fn.at 89=some Tryz.f89:=by kernel_rfl
theorem fn90 (ax:Axs):(EE ax).fn.at 90=some Tryz.f90:=by kernel_rfl
theorem fn91 (ax:Axs):(EE ax).fn.at 91=some Tryz.f91:=by kernel_rfl
theorem fn92 (ax:Axs):(EE ax).fn.at 92=some Tryz.f92:=by kernel_rfl
theorem fn93 (ax:Axs):(EE ax).fn.at 93=some Tryz.f93:=by kernel_rfl
theorem fn94 (ax:Axs):(EE ax).fn.at 94=some Tryz.f94:=by kernel_rfl
theorem fn95 (ax:Axs):(EE ax).fn.at 95=some Tryz.f95:=by kernel_rfl
theorem fn96 (ax:Axs):(EE ax).fn.at 96=some Tryz.f96:=by kernel_rfl
theorem fn97 (ax:Axs):(EE ax).fn.at 97=some Tryz.f97:=by kernel_rfl
theorem fn100 (ax:Axs):(EE ax).fn.at 100=some Tryz.f100:=by kernel_rfl
theorem fn101 (ax:Axs):(EE ax).fn.at 101=some Tryz.f101:=by kernel_rfl
theorem fn102 (ax:Axs):(EE ax).fn.at 102=some Tryz.f102:=by kernel_rfl
theorem fn103 (ax:Axs):(EE ax).fn.at 103=some Tryz.f103:=by kernel_rfl
theorem fn104 (ax:Axs):(EE ax).fn.at 104=some Tryz.f104:=by kernel_rfl
theorem fn114 (ax:Axs):(EE ax).fn.at 114=some Tryz.f114:=by kernel_rfl
theorem fn115 (ax:Axs):(EE ax).fn.at 115=some Tryz.f115:=by kernel_rfl
theorem fn116 (ax:Axs):(EE ax).fn.at 116=some Tryz.f116:=by kernel_rfl
theorem fn117 (ax:Axs):(EE ax).fn.at 117=some Tryz.f117:=by kernel_rfl
theorem fn118 (ax:Axs):(EE ax).fn.at 118=some Tryz.f118:=by kernel_rfl
theorem fn119 (ax:Axs):(EE ax).fn.at 119=some Tryz.f119:=by kernel_rfl
theorem fn120 (ax:Axs):(EE ax).fn.at 120=some Tryz.f120:=by kernel_rfl
theorem fn127 (ax:Axs):(EE ax).fn.at 127=some Tryz.f127:=by kernel_rfl
theorem fn128 (ax:Axs):(EE ax).fn.at 128=some Tryz.f128:=by kernel_rfl
theorem fn129 (ax:Axs):(EE ax).fn.at 129=some Tryz.f129:=by kernel_rfl
theorem fn130 (ax:Axs):(EE ax).fn.at 130=some Tryz.f130:=by kernel_rfl
theorem fn131 (ax:Axs):(EE ax).fn.at 131=some Tryz.f131:=by kernel_rfl
theorem fn132 (ax:Axs):(EE ax).fn.at 132=some Tryz.f132:=by kernel_rfl
theorem ti3 (ax:Axs):(EE ax).ti.at 3=some ⟨.int .i64,1,8,[.int .i64 0]⟩:=by kernel_rfl
theorem ti4 (ax:Axs):(EE ax).ti.at 4=some ⟨.bool,1,1,[.bool false]⟩:=by kernel_rfl
theorem ti9 (ax:Axs):(EE ax).ti.at 9=some ⟨.string,1,16,[.string ⟨#[]⟩]⟩:=by kernel_rfl
theorem ti22 (ax:Axs):(EE ax).ti.at 22=some ⟨.slice 43,1,24,[.slice none 0 0]⟩:=by kernel_rfl
theorem ti23 (ax:Axs):(EE ax).ti.at 23=some ⟨.slice 65,1,24,[.slice none 0 0]⟩:=by kernel_rfl
theorem ti24 (ax:Axs):(EE ax).ti.at 24=some ⟨.slice 85,1,24,[.slice none 0 0]⟩:=by kernel_rfl
theorem yot (ax:Axs) (S:TS) (b off N:Nat):zac (EE ax) S 26 0 (.ptr b off N)=bif S.has b N then some (.ptr b (off+0) N) else none:=by kernel_rfl
theorem yn9 (ax:Axs) (S:TS) (l:List T):zac (EE ax) S 26 0 (.cp l)=some (.cp (l.drop 0)):=by kernel_rfl
theorem yos (ax:Axs) (S:TS) (b off N:Nat):zac (EE ax) S 26 1 (.ptr b off N)=bif S.has b N then some (.ptr b (off+1) N) else none:=by kernel_rfl
theorem yn8 (ax:Axs) (S:TS) (l:List T):zac (EE ax) S 26 1 (.cp l)=some (.cp (l.drop 1)):=by kernel_rfl
theorem yor (ax:Axs) (S:TS) (b off N:Nat):zac (EE ax) S 26 2 (.ptr b off N)=bif S.has b N then some (.ptr b (off+2) N) else none:=by kernel_rfl
noncomputable def fs26:Array Field:=match Tryz.prog.underlying 26 with|some (.struct fs)=>fs|_=>#[]
theorem ti26 (ax:Axs):(EE ax).ti.at 26=some ⟨.struct fs26,3,72,[.slice none 0 0,.slice none 0 0,.slice none 0 0]⟩:=by kernel_rfl
theorem ti27 (ax:Axs):(EE ax).ti.at 27=some ⟨.slice 41,1,24,[.slice none 0 0]⟩:=by kernel_rfl
theorem sr27 (ax:Axs):srcT (EE ax) 27=true:=by kernel_rfl
theorem ti28 (ax:Axs):(EE ax).ti.at 28=some ⟨.slice 91,1,24,[.slice none 0 0]⟩:=by kernel_rfl
theorem yoq (ax:Axs) (S:TS) (b off N:Nat):zac (EE ax) S 30 0 (.ptr b off N)=bif S.has b N then some (.ptr b (off+0) N) else none:=by kernel_rfl
theorem yop (ax:Axs) (S:TS) (b off N:Nat):zac (EE ax) S 30 1 (.ptr b off N)=bif S.has b N then some (.ptr b (off+1) N) else none:=by kernel_rfl
theorem yn7 (ax:Axs) (S:TS) (l:List T):zac (EE ax) S 30 1 (.cp l)=some (.cp (l.drop 1)):=by kernel_rfl
theorem yoo (ax:Axs) (S:TS) (b off N:Nat):zac (EE ax) S 30 2 (.ptr b off N)=bif S.has b N then some (.ptr b (off+2) N) else none:=by kernel_rfl
theorem yn6 (ax:Axs) (S:TS) (l:List T):zac (EE ax) S 30 2 (.cp l)=some (.cp (l.drop 2)):=by kernel_rfl
noncomputable def fs30:Array Field:=match Tryz.prog.underlying 30 with|some (.struct fs)=>fs|_=>#[]
theorem bt30 (ax:Axs) (ρ:ep->T) (parts:List (Nat×ep)):zi9 (EE ax) ρ 30 parts=aggO (zbb [.int .i64 0,.slice none 0 0,.slice none 0 0] (za1 (zex (EE ax) fs30) ρ parts)):=by kernel_rfl
theorem ti30 (ax:Axs):(EE ax).ti.at 30=some ⟨.struct fs30,3,56,[.int .i64 0,.slice none 0 0,.slice none 0 0]⟩:=by kernel_rfl
theorem ti37 (ax:Axs):(EE ax).ti.at 37=some ⟨.slice 3,1,24,[.slice none 0 0]⟩:=by kernel_rfl
theorem sr37 (ax:Axs):srcT (EE ax) 37=true:=by kernel_rfl
theorem ti40 (ax:Axs):(EE ax).ti.at 40=some ⟨.slice 104,1,24,[.slice none 0 0]⟩:=by kernel_rfl
theorem sr40 (ax:Axs):srcT (EE ax) 40=true:=by kernel_rfl
theorem ti41 (ax:Axs):(EE ax).ti.at 41=some ⟨.slice 104,1,24,[.slice none 0 0]⟩:=by kernel_rfl
theorem sr41 (ax:Axs):srcT (EE ax) 41=true:=by kernel_rfl
theorem yn5 (ax:Axs) (S:TS) (l:List T):zac (EE ax) S 43 0 (.cp l)=some (.cp (l.drop 0)):=by kernel_rfl
theorem yon (ax:Axs) (S:TS) (b off N:Nat):zac (EE ax) S 43 2 (.ptr b off N)=bif S.has b N then some (.ptr b (off+2) N) else none:=by kernel_rfl
theorem yn4 (ax:Axs) (S:TS) (l:List T):zac (EE ax) S 43 2 (.cp l)=some (.cp (l.drop 2)):=by kernel_rfl
theorem yom (ax:Axs) (S:TS) (b off N:Nat):zac (EE ax) S 43 3 (.ptr b off N)=bif S.has b N then some (.ptr b (off+3) N) else none:=by kernel_rfl
noncomputable def fs43:Array Field:=match Tryz.prog.underlying 43 with|some (.struct fs)=>fs|_=>#[]
theorem ti43 (ax:Axs):(EE ax).ti.at 43=some ⟨.struct fs43,4,40,[.string ⟨#[]⟩,.bool false,.int .i64 0,.int .i64 0]⟩:=by kernel_rfl
theorem ti45 (ax:Axs):(EE ax).ti.at 45=some ⟨.slice 78,1,24,[.slice none 0 0]⟩:=by kernel_rfl
theorem sr45 (ax:Axs):srcT (EE ax) 45=true:=by kernel_rfl
theorem zgl (ax:Axs) (S:TS) (b off N:Nat):zac (EE ax) S 54 0 (.ptr b off N)=bif S.has b N then some (.ptr b (off+0) N) else none:=by kernel_rfl
theorem zpo (ax:Axs) (S:TS) (l:List T):zac (EE ax) S 54 0 (.cp l)=some (.cp (l.drop 0)):=by kernel_rfl
theorem ybb (ax:Axs) (S:TS) (b off N:Nat):zac (EE ax) S 54 1 (.ptr b off N)=bif S.has b N then some (.ptr b (off+1) N) else none:=by kernel_rfl
theorem yii (ax:Axs) (S:TS) (l:List T):zac (EE ax) S 54 1 (.cp l)=some (.cp (l.drop 1)):=by kernel_rfl
theorem yio (ax:Axs) (S:TS) (b off N:Nat):zac (EE ax) S 54 2 (.ptr b off N)=bif S.has b N then some (.ptr b (off+2) N) else none:=by kernel_rfl
theorem yn3 (ax:Axs) (S:TS) (l:List T):zac (EE ax) S 54 2 (.cp l)=some (.cp (l.drop 2)):=by kernel_rfl
theorem zn2 (ax:Axs) (S:TS) (b off N:Nat):zac (EE ax) S 54 3 (.ptr b off N)=bif S.has b N then some (.ptr b (off+3) N) else none:=by kernel_rfl
theorem ztm (ax:Axs) (S:TS) (l:List T):zac (EE ax) S 54 3 (.cp l)=some (.cp (l.drop 3)):=by kernel_rfl
theorem zpp (ax:Axs) (S:TS) (b off N:Nat):zac (EE ax) S 54 4 (.ptr b off N)=bif S.has b N then some (.ptr b (off+4) N) else none:=by kernel_rfl
theorem zwz (ax:Axs) (S:TS) (l:List T):zac (EE ax) S 54 4 (.cp l)=some (.cp (l.drop 4)):=by kernel_rfl
theorem zro (ax:Axs) (S:TS) (b off N:Nat):zac (EE ax) S 54 5 (.ptr b off N)=bif S.has b N then some (.ptr b (off+5) N) else none:=by kernel_rfl
theorem ztl (ax:Axs) (S:TS) (l:List T):zac (EE ax) S 54 5 (.cp l)=some (.cp (l.drop 5)):=by kernel_rfl
noncomputable def fs54:Array Field:=match Tryz.prog.underlying 54 with|some (.struct fs)=>fs|_=>#[]
theorem ti54 (ax:Axs):(EE ax).ti.at 54=some ⟨.struct fs54,6,48,[.int .i64 0,.int .i64 0,.int .i64 0,.int .i64 0,.int .i64 0,.int .i64 0]⟩:=by kernel_rfl
theorem tz60 (ax:Axs):(EE ax).ti.at 60=some ⟨.array 10 3,10,80,zVs 10 .i64⟩:=by kernel_rfl
theorem aq60 (ax:Axs) (a b:Ar 10):(∀ (S:TS) (x y:ep),tBin Tryz.prog (EE ax) S 60 .eql x y (.agg (a.l.map (d7 .i64))) (.agg (b.l.map (d7 .i64)))=some (.bool (decide (a=b))))/\(∀ (S:TS) (x y:ep),tBin Tryz.prog (EE ax) S 60 .neq x y (.agg (a.l.map (d7 .i64))) (.agg (b.l.map (d7 .i64)))=some (.bool (!(decide (a=b))))):=⟨fun _ _ _=>(yes (e:=3) (by kernel_rfl) (by kernel_rfl) (by kernel_rfl) (by kernel_rfl) a b).1,fun _ _ _=>(yes (e:=3) (by kernel_rfl) (by kernel_rfl) (by kernel_rfl) (by kernel_rfl) a b).2⟩
theorem yol (ax:Axs) (S:TS) (b off N:Nat):zac (EE ax) S 65 0 (.ptr b off N)=bif S.has b N then some (.ptr b (off+0) N) else none:=by kernel_rfl
theorem yn2 (ax:Axs) (S:TS) (l:List T):zac (EE ax) S 65 0 (.cp l)=some (.cp (l.drop 0)):=by kernel_rfl
theorem yok (ax:Axs) (S:TS) (b off N:Nat):zac (EE ax) S 65 1 (.ptr b off N)=bif S.has b N then some (.ptr b (off+1) N) else none:=by kernel_rfl
theorem yn1 (ax:Axs) (S:TS) (l:List T):zac (EE ax) S 65 1 (.cp l)=some (.cp (l.drop 1)):=by kernel_rfl
theorem yoj (ax:Axs) (S:TS) (b off N:Nat):zac (EE ax) S 65 2 (.ptr b off N)=bif S.has b N then some (.ptr b (off+2) N) else none:=by kernel_rfl
noncomputable def fs65:Array Field:=match Tryz.prog.underlying 65 with|some (.struct fs)=>fs|_=>#[]
theorem ti65 (ax:Axs):(EE ax).ti.at 65=some ⟨.struct fs65,3,24,[.int .i64 0,.int .i64 0,.int .i64 0]⟩:=by kernel_rfl
theorem ti66 (ax:Axs):(EE ax).ti.at 66=some ⟨.slice 60,1,24,[.slice none 0 0]⟩:=by kernel_rfl
theorem sr66 (ax:Axs):srcT (EE ax) 66=true:=by kernel_rfl
theorem yoi (ax:Axs) (S:TS) (b off N:Nat):zac (EE ax) S 78 0 (.ptr b off N)=bif S.has b N then some (.ptr b (off+0) N) else none:=by kernel_rfl
theorem yn0 (ax:Axs) (S:TS) (l:List T):zac (EE ax) S 78 0 (.cp l)=some (.cp (l.drop 0)):=by kernel_rfl
theorem yoh (ax:Axs) (S:TS) (b off N:Nat):zac (EE ax) S 78 1 (.ptr b off N)=bif S.has b N then some (.ptr b (off+1) N) else none:=by kernel_rfl
theorem ynz (ax:Axs) (S:TS) (l:List T):zac (EE ax) S 78 1 (.cp l)=some (.cp (l.drop 1)):=by kernel_rfl
theorem yog (ax:Axs) (S:TS) (b off N:Nat):zac (EE ax) S 78 2 (.ptr b off N)=bif S.has b N then some (.ptr b (off+2) N) else none:=by kernel_rfl
theorem yny (ax:Axs) (S:TS) (l:List T):zac (EE ax) S 78 2 (.cp l)=some (.cp (l.drop 2)):=by kernel_rfl
noncomputable def fs78:Array Field:=match Tryz.prog.underlying 78 with|some (.struct fs)=>fs|_=>#[]
theorem bt78 (ax:Axs) (ρ:ep->T) (parts:List (Nat×ep)):zi9 (EE ax) ρ 78 parts=aggO (zbb [.int .i64 0,.int .i64 0,.slice none 0 0] (za1 (zex (EE ax) fs78) ρ parts)):=by kernel_rfl
theorem ti78 (ax:Axs):(EE ax).ti.at 78=some ⟨.struct fs78,3,40,[.int .i64 0,.int .i64 0,.slice none 0 0]⟩:=by kernel_rfl
theorem yf9 (ax:Axs):zex (EE ax) fs78 0=some (0,1):=by kernel_rfl
theorem yf8 (ax:Axs):zex (EE ax) fs78 1=some (1,1):=by kernel_rfl
theorem ysc (ax:Axs):zex (EE ax) fs78 2=some (2,1):=by kernel_rfl
theorem ti79 (ax:Axs):(EE ax).ti.at 79=some ⟨.slice 9,1,24,[.slice none 0 0]⟩:=by kernel_rfl
theorem sr79 (ax:Axs):srcT (EE ax) 79=true:=by kernel_rfl
theorem ynx (ax:Axs) (S:TS) (l:List T):zac (EE ax) S 85 0 (.cp l)=some (.cp (l.drop 0)):=by kernel_rfl
theorem ynw (ax:Axs) (S:TS) (l:List T):zac (EE ax) S 85 1 (.cp l)=some (.cp (l.drop 1)):=by kernel_rfl
noncomputable def fs85:Array Field:=match Tryz.prog.underlying 85 with|some (.struct fs)=>fs|_=>#[]
theorem ti85 (ax:Axs):(EE ax).ti.at 85=some ⟨.struct fs85,2,24,[.string ⟨#[]⟩,.int .i64 0]⟩:=by kernel_rfl
theorem yof (ax:Axs) (S:TS) (b off N:Nat):zac (EE ax) S 91 0 (.ptr b off N)=bif S.has b N then some (.ptr b (off+0) N) else none:=by kernel_rfl
theorem yoe (ax:Axs) (S:TS) (b off N:Nat):zac (EE ax) S 91 1 (.ptr b off N)=bif S.has b N then some (.ptr b (off+1) N) else none:=by kernel_rfl
theorem yod (ax:Axs) (S:TS) (b off N:Nat):zac (EE ax) S 91 2 (.ptr b off N)=bif S.has b N then some (.ptr b (off+2) N) else none:=by kernel_rfl
theorem yoc (ax:Axs) (S:TS) (b off N:Nat):zac (EE ax) S 91 3 (.ptr b off N)=bif S.has b N then some (.ptr b (off+3) N) else none:=by kernel_rfl
theorem yob (ax:Axs) (S:TS) (b off N:Nat):zac (EE ax) S 91 4 (.ptr b off N)=bif S.has b N then some (.ptr b (off+4) N) else none:=by kernel_rfl
theorem yoa (ax:Axs) (S:TS) (b off N:Nat):zac (EE ax) S 91 5 (.ptr b off N)=bif S.has b N then some (.ptr b (off+5) N) else none:=by kernel_rfl
noncomputable def fs91:Array Field:=match Tryz.prog.underlying 91 with|some (.struct fs)=>fs|_=>#[]
theorem ti91 (ax:Axs):(EE ax).ti.at 91=some ⟨.struct fs91,6,80,[.int .i64 0,.string ⟨#[]⟩,.slice none 0 0,.string ⟨#[]⟩,.int .i64 0,.int .i64 0]⟩:=by kernel_rfl
theorem ti98 (ax:Axs):(EE ax).ti.at 98=some ⟨.map 106 37,1,8,[.map none]⟩:=by kernel_rfl
theorem ti99 (ax:Axs):(EE ax).ti.at 99=some ⟨.slice 106,1,24,[.slice none 0 0]⟩:=by kernel_rfl
theorem sr99 (ax:Axs):srcT (EE ax) 99=true:=by kernel_rfl
def ykb:List Value:=[.int .i64 0,.int .i64 0,.int .i64 0,.int .i64 0,.int .i64 0,.int .i64 0,.int .i64 0,.int .i64 0,.int .i64 0,.int .i64 0,.int .i64 0,.int .i64 0,.int .i64 0,.int .i64 0,.int .i64 0,.int .i64 0,.int .i64 0,.int .i64 0,.int .i64 0,.int .i64 0]
theorem yd0:zgr ykb=some ((zA 10).l.map (d7 .i64)++((zA 10).l.map (d7 .i64))):=rfl
theorem z26:ykb.length=20:=rfl
theorem yi2 (ax:Axs) (S:TS) (b off N:Nat):zac (EE ax) S 101 0 (.ptr b off N)=bif S.has b N then some (.ptr b (off+0) N) else none:=by kernel_rfl
theorem yi1 (ax:Axs) (S:TS) (b off N:Nat):zac (EE ax) S 101 1 (.ptr b off N)=bif S.has b N then some (.ptr b (off+10) N) else none:=by kernel_rfl
theorem yin (ax:Axs) (S:TS) (l:List T):zac (EE ax) S 101 1 (.cp l)=some (.cp (l.drop 10)):=by kernel_rfl
noncomputable def yln:Array Field:=match Tryz.prog.underlying 101 with|some (.struct fs)=>fs|_=>#[]
theorem ytd (ax:Axs) (ρ:ep->T) (parts:List (Nat×ep)):zi9 (EE ax) ρ 101 parts=aggO (zbb ykb (za1 (zex (EE ax) yln) ρ parts)):=by kernel_rfl
theorem yrt (ax:Axs):(EE ax).ti.at 101=some ⟨.struct yln,20,160,ykb⟩:=by kernel_rfl
theorem ygg (ax:Axs):zex (EE ax) yln 0=some (0,10):=by kernel_rfl
theorem ygf (ax:Axs):zex (EE ax) yln 1=some (10,10):=by kernel_rfl
theorem yrs (ax:Axs):(EE ax).ti.at 102=some ⟨.slice 120,1,24,[.slice none 0 0]⟩:=by kernel_rfl
theorem sr102 (ax:Axs):srcT (EE ax) 102=true:=by kernel_rfl
def yci:List Value:=[.int .i64 0,.int .i64 0,.int .i64 0,.int .i64 0,.int .i64 0,.int .i64 0,.int .i64 0,.int .i64 0,.int .i64 0,.int .i64 0,.int .i64 0,.int .i64 0,.int .i64 0,.int .i64 0,.int .i64 0,.int .i64 0,.int .i64 0,.int .i64 0,.int .i64 0,.int .i64 0,.int .i64 0,.int .i64 0,.slice none 0 0]
theorem ydz:zgr yci=some (d7 .i64 0 :: ((zA 10).l.map (d7 .i64)++((zA 10).l.map (d7 .i64)++[d7 .i64 0,T.nils]))):=rfl
theorem z25:yci.length=23:=rfl
theorem yi0 (ax:Axs) (S:TS) (b off N:Nat):zac (EE ax) S 104 0 (.ptr b off N)=bif S.has b N then some (.ptr b (off+0) N) else none:=by kernel_rfl
theorem yim (ax:Axs) (S:TS) (l:List T):zac (EE ax) S 104 0 (.cp l)=some (.cp (l.drop 0)):=by kernel_rfl
theorem yiz (ax:Axs) (S:TS) (b off N:Nat):zac (EE ax) S 104 1 (.ptr b off N)=bif S.has b N then some (.ptr b (off+1) N) else none:=by kernel_rfl
theorem yil (ax:Axs) (S:TS) (l:List T):zac (EE ax) S 104 1 (.cp l)=some (.cp (l.drop 1)):=by kernel_rfl
theorem yiy (ax:Axs) (S:TS) (b off N:Nat):zac (EE ax) S 104 2 (.ptr b off N)=bif S.has b N then some (.ptr b (off+21) N) else none:=by kernel_rfl
theorem yix (ax:Axs) (S:TS) (b off N:Nat):zac (EE ax) S 104 3 (.ptr b off N)=bif S.has b N then some (.ptr b (off+22) N) else none:=by kernel_rfl
theorem yik (ax:Axs) (S:TS) (l:List T):zac (EE ax) S 104 3 (.cp l)=some (.cp (l.drop 22)):=by kernel_rfl
noncomputable def z8b:Array Field:=match Tryz.prog.underlying 104 with|some (.struct fs)=>fs|_=>#[]
theorem yq7 (ax:Axs) (ρ:ep->T) (parts:List (Nat×ep)):zi9 (EE ax) ρ 104 parts=aggO (zbb yci (za1 (zex (EE ax) z8b) ρ parts)):=by kernel_rfl
theorem yrr (ax:Axs):(EE ax).ti.at 104=some ⟨.struct z8b,23,200,yci⟩:=by kernel_rfl
theorem z7p (ax:Axs):zex (EE ax) z8b 1=some (1,20):=by kernel_rfl
theorem z7o (ax:Axs):zex (EE ax) z8b 2=some (21,1):=by kernel_rfl
theorem yge (ax:Axs):zex (EE ax) z8b 3=some (22,1):=by kernel_rfl
theorem yiw (ax:Axs) (S:TS) (b off N:Nat):zac (EE ax) S 106 0 (.ptr b off N)=bif S.has b N then some (.ptr b (off+0) N) else none:=by kernel_rfl
theorem z8f (ax:Axs) (S:TS) (l:List T):zac (EE ax) S 106 0 (.cp l)=some (.cp (l.drop 0)):=by kernel_rfl
theorem yiv (ax:Axs) (S:TS) (b off N:Nat):zac (EE ax) S 106 1 (.ptr b off N)=bif S.has b N then some (.ptr b (off+1) N) else none:=by kernel_rfl
theorem yij (ax:Axs) (S:TS) (l:List T):zac (EE ax) S 106 1 (.cp l)=some (.cp (l.drop 1)):=by kernel_rfl
noncomputable def yic:Array Field:=match Tryz.prog.underlying 106 with|some (.struct fs)=>fs|_=>#[]
theorem ytc (ax:Axs) (ρ:ep->T) (parts:List (Nat×ep)):zi9 (EE ax) ρ 106 parts=aggO (zbb [.int .i64 0,.int .i64 0] (za1 (zex (EE ax) yic) ρ parts)):=by kernel_rfl
theorem z6x (ax:Axs):(EE ax).ti.at 106=some ⟨.struct yic,2,16,[.int .i64 0,.int .i64 0]⟩:=by kernel_rfl
theorem ygd (ax:Axs):zex (EE ax) yic 0=some (0,1):=by kernel_rfl
theorem ygc (ax:Axs):zex (EE ax) yic 1=some (1,1):=by kernel_rfl
def ypi:List Value:=[.int .i64 0,.int .i64 0,.int .i64 0,.int .i64 0,.int .i64 0,.int .i64 0,.int .i64 0,.int .i64 0,.int .i64 0,.int .i64 0,.int .i64 0,.int .i64 0,.int .i64 0,.int .i64 0,.int .i64 0,.int .i64 0,.int .i64 0,.int .i64 0,.int .i64 0,.int .i64 0]
theorem ydy:zgr ypi=some ((zA 10).l.map (d7 .i64)++((zA 10).l.map (d7 .i64))):=rfl
theorem z24:ypi.length=20:=rfl
theorem yiu (ax:Axs) (S:TS) (b off N:Nat):zac (EE ax) S 119 0 (.ptr b off N)=bif S.has b N then some (.ptr b (off+0) N) else none:=by kernel_rfl
theorem yit (ax:Axs) (S:TS) (b off N:Nat):zac (EE ax) S 119 1 (.ptr b off N)=bif S.has b N then some (.ptr b (off+10) N) else none:=by kernel_rfl
noncomputable def fs119:Array Field:=match Tryz.prog.underlying 119 with|some (.struct fs)=>fs|_=>#[]
theorem yrq (ax:Axs):(EE ax).ti.at 119=some ⟨.struct fs119,20,160,ypi⟩:=by kernel_rfl
theorem zus (ax:Axs):(EE ax).ti.at 120=some ⟨.slice 123,1,24,[.slice none 0 0]⟩:=by kernel_rfl
theorem z1g (ax:Axs):srcT (EE ax) 120=true:=by kernel_rfl
def ydx:List Value:=[.int .i64 0,.int .i64 0,.int .i64 0,.int .i64 0,.int .i64 0,.int .i64 0,.int .i64 0,.int .i64 0,.int .i64 0,.int .i64 0,.int .i64 0,.int .i64 0,.int .i64 0,.int .i64 0,.int .i64 0,.int .i64 0,.int .i64 0,.int .i64 0,.int .i64 0,.int .i64 0,.int .i64 0]
theorem ydw:zgr ydx=some (d7 .i64 0 :: ((zA 10).l.map (d7 .i64)++((zA 10).l.map (d7 .i64)))):=rfl
theorem z23:ydx.length=21:=rfl
theorem yis (ax:Axs) (S:TS) (b off N:Nat):zac (EE ax) S 123 0 (.ptr b off N)=bif S.has b N then some (.ptr b (off+0) N) else none:=by kernel_rfl
theorem yir (ax:Axs) (S:TS) (b off N:Nat):zac (EE ax) S 123 1 (.ptr b off N)=bif S.has b N then some (.ptr b (off+1) N) else none:=by kernel_rfl
noncomputable def yib:Array Field:=match Tryz.prog.underlying 123 with|some (.struct fs)=>fs|_=>#[]
theorem ytb (ax:Axs) (ρ:ep->T) (parts:List (Nat×ep)):zi9 (EE ax) ρ 123 parts=aggO (zbb ydx (za1 (zex (EE ax) yib) ρ parts)):=by kernel_rfl
theorem yrp (ax:Axs):(EE ax).ti.at 123=some ⟨.struct yib,21,168,ydx⟩:=by kernel_rfl
theorem ygb (ax:Axs):zex (EE ax) yib 0=some (0,1):=by kernel_rfl
theorem yga (ax:Axs):zex (EE ax) yib 1=some (1,20):=by kernel_rfl
theorem yiq (ax:Axs) (S:TS) (b off N:Nat):zac (EE ax) S 135 0 (.ptr b off N)=bif S.has b N then some (.ptr b (off+0) N) else none:=by kernel_rfl
theorem yip (ax:Axs) (S:TS) (b off N:Nat):zac (EE ax) S 135 1 (.ptr b off N)=bif S.has b N then some (.ptr b (off+1) N) else none:=by kernel_rfl
noncomputable def yql:Array Field:=match Tryz.prog.underlying 135 with|some (.struct fs)=>fs|_=>#[]
theorem bt135 (ax:Axs) (ρ:ep->T) (parts:List (Nat×ep)):zi9 (EE ax) ρ 135 parts=aggO (zbb [.slice none 0 0,.int .i64 0] (za1 (zex (EE ax) yql) ρ parts)):=by kernel_rfl
theorem yro (ax:Axs):(EE ax).ti.at 135=some ⟨.struct yql,2,32,[.slice none 0 0,.int .i64 0]⟩:=by kernel_rfl
theorem yp3 (ax:Axs):zex (EE ax) yql 1=some (1,1):=by kernel_rfl
noncomputable def fd162:TypeDesc:=match Tryz.prog.underlying 162 with|some d=>d|none=>.bool
theorem yrn (ax:Axs):(EE ax).ti.at 162=some ⟨fd162,1,8,[.nilFunc]⟩:=by kernel_rfl
theorem el27 (ax:Axs):zen (EE ax) 27=some ⟨.slice 104,1,24,[.slice none 0 0]⟩:=by kernel_rfl
theorem el37 (ax:Axs):zen (EE ax) 37=some ⟨.int .i64,1,8,[.int .i64 0]⟩:=by kernel_rfl
theorem el40 (ax:Axs):zen (EE ax) 40=some ⟨.struct z8b,23,200,yci⟩:=by kernel_rfl
theorem el41 (ax:Axs):zen (EE ax) 41=some ⟨.struct z8b,23,200,yci⟩:=by kernel_rfl
theorem el45 (ax:Axs):zen (EE ax) 45=some ⟨.struct fs78,3,40,[.int .i64 0,.int .i64 0,.slice none 0 0]⟩:=by kernel_rfl
theorem el66 (ax:Axs):zen (EE ax) 66=some ⟨.array 10 3,10,80,(zVs 10 .i64)⟩:=by kernel_rfl
theorem el79 (ax:Axs):zen (EE ax) 79=some ⟨.string,1,16,[.string ⟨#[]⟩]⟩:=by kernel_rfl
theorem el99 (ax:Axs):zen (EE ax) 99=some ⟨.struct yic,2,16,[.int .i64 0,.int .i64 0]⟩:=by kernel_rfl
theorem ys3 (ax:Axs):zen (EE ax) 102=some ⟨.slice 123,1,24,[.slice none 0 0]⟩:=by kernel_rfl
theorem zw5 (ax:Axs):zen (EE ax) 120=some ⟨.struct yib,21,168,ydx⟩:=by kernel_rfl
instance:Inhabited ByteArray:=⟨⟨#[]⟩⟩
theorem zbu {α:Type} {n:Nat} {f:α->T} (h:∀ x,(f x).ids n=true):∀ (l:List α),jb n (l.map f)=true
  |[]=>rfl
  |x :: l=>by simp only [ge,jb,h,zbu h l,el]
theorem zh3 {α:Type} {n:Nat} {f:α->T} (h:∀ x,jb n (f x).cells=true):∀ (l:List α),jb n (vecC f l)=true
  |[]=>rfl
  |x :: l=>by
    have:=zh3 h l;unfold vecC at this ⊢;rw [ge,iv,zar,h,this];rfl
def ints (l:List Int):T:=.lst 1 (l.map (d7 .i64))
theorem zo0 {n:Nat} (l:List Int):(ints l).ids n=true:=zbu (fun _=>rfl) l
theorem z44 {n:Nat} (l:List Int):jb n (l.map (d7 .i64))=true:=zbu (fun _=>rfl) l
def zlw (l:List (Ar 10)):T:=.lst 10 (l.map (eAr .i64))
theorem z47 {n:Nat} (l:List (Ar 10)):(zlw l).ids n=true:=zbu (fun x=>yat x) l
theorem zzx {n:Nat} (l:List (Ar 10)):jb n (l.map (eAr .i64))=true:=zbu (fun x=>yat x) l
theorem zzp {n:Nat} (l:List (Ar 10)):jb n (vecC (eAr .i64) l)=true:=zh3 (fun x=>zeg x.l) l
def strs (l:List ByteArray):T:=.lst 1 (l.map T.str)
theorem zt8 {n:Nat} (l:List ByteArray):(strs l).ids n=true:=zbu (fun _=>rfl) l
theorem z42 {n:Nat} (l:List ByteArray):jb n (l.map T.str)=true:=zbu (fun _=>rfl) l
structure Node where
  name:ByteArray
  box:Bool
  rules:Int
  entries:Int
deriving Inhabited,DecidableEq
def zrr (x:Node):T:=.agg ([T.str x.name,T.bool x.box,d7 .i64 x.rules,d7 .i64 x.entries])
theorem yde {n:Nat} (x:Node):jb n (zrr x).cells=true:=by simp only [zrr,gt,ol,jb,zar,zeg,el]
theorem zre {n:Nat} (x:Node):(zrr x).ids n=true:=by simp only [zrr,ol,jb,zar,zeg,el]
structure Offl where
  node:Int
  port:Int
  tag:Int
  out:Int
  back:Int
  first:Int
deriving Inhabited,DecidableEq
def zrq (x:Offl):T:=.agg ([d7 .i64 x.node,d7 .i64 x.port,d7 .i64 x.tag,d7 .i64 x.out,d7 .i64 x.back,d7 .i64 x.first])
theorem ydd {n:Nat} (x:Offl):jb n (zrq x).cells=true:=by simp only [zrq,gt,ol,jb,zar,zeg,el]
theorem zrd {n:Nat} (x:Offl):(zrq x).ids n=true:=by simp only [zrq,ol,jb,zar,zeg,el]
structure Link where
  frm:Int
  to:Int
  cap:Int
deriving Inhabited,DecidableEq
def zrs (x:Link):T:=.agg ([d7 .i64 x.frm,d7 .i64 x.to,d7 .i64 x.cap])
theorem ydf {n:Nat} (x:Link):jb n (zrs x).cells=true:=by simp only [zrs,gt,ol,jb,zar,zeg,el]
theorem zrf {n:Nat} (x:Link):(zrs x).ids n=true:=by simp only [zrs,ol,jb,zar,zeg,el]
structure ze2 where
  port:Int
  tag:Int
  rules:List Int
deriving Inhabited,DecidableEq
def zgm (x:ze2):T:=.agg ([d7 .i64 x.port,d7 .i64 x.tag,ints x.rules])
theorem z78 {n:Nat} (x:ze2):jb n (zgm x).cells=true:=by simp only [zgm,gt,ol,jb,zar,zeg,zo0,el]
theorem zo2 {n:Nat} (x:ze2):(zgm x).ids n=true:=by simp only [zgm,ol,jb,zar,zeg,zo0,el]
structure Edge where
  name:ByteArray
  node:Int
deriving Inhabited,DecidableEq
def zrt (x:Edge):T:=.agg ([T.str x.name,d7 .i64 x.node])
theorem ydg {n:Nat} (x:Edge):jb n (zrt x).cells=true:=by simp only [zrt,gt,ol,jb,zar,zeg,el]
theorem zrg {n:Nat} (x:Edge):(zrt x).ids n=true:=by simp only [zrt,ol,jb,zar,zeg,el]
def zax (l:List Node):T:=.lst 4 (l.map zrr)
theorem zwn {n:Nat} (l:List Node):(zax l).ids n=true:=zbu (fun x=>zre x) l
theorem zzt {n:Nat} (l:List Node):jb n (l.map zrr)=true:=zbu (fun x=>zre x) l
theorem zzm {n:Nat} (l:List Node):jb n (vecC zrr l)=true:=zh3 (fun x=>yde x) l
def zay (l:List Link):T:=.lst 3 (l.map zrs)
theorem zwo {n:Nat} (l:List Link):(zay l).ids n=true:=zbu (fun x=>zrf x) l
theorem zzu {n:Nat} (l:List Link):jb n (l.map zrs)=true:=zbu (fun x=>zrf x) l
theorem zzn {n:Nat} (l:List Link):jb n (vecC zrs l)=true:=zh3 (fun x=>ydf x) l
def zaz (l:List Edge):T:=.lst 2 (l.map zrt)
theorem zwp {n:Nat} (l:List Edge):(zaz l).ids n=true:=zbu (fun x=>zrg x) l
theorem zzw {n:Nat} (l:List Edge):jb n (l.map zrt)=true:=zbu (fun x=>zrg x) l
theorem zzo {n:Nat} (l:List Edge):jb n (vecC zrt l)=true:=zh3 (fun x=>ydg x) l
structure Net where
  nodes:List Node
  links:List Link
  edges:List Edge
deriving Inhabited,DecidableEq
def eNet (x:Net):T:=.agg ([zax x.nodes,zay x.links,zaz x.edges])
theorem yas {n:Nat} (x:Net):(eNet x).ids n=true:=by simp only [eNet,ol,jb,zar,zeg,zwn,zwo,zwp,el]
structure zxo where
  kind:Int
  var:ByteArray
  key:List ByteArray
  field:ByteArray
  n:Int
  m:Int
deriving Inhabited,DecidableEq
def zkt (x:zxo):T:=.agg ([d7 .i64 x.kind,T.str x.var,strs x.key,T.str x.field,d7 .i64 x.n,d7 .i64 x.m])
theorem z77 {n:Nat} (x:zxo):jb n (zkt x).cells=true:=by simp only [zkt,gt,ol,jb,zar,zeg,zt8,el]
theorem zo1 {n:Nat} (x:zxo):(zkt x).ids n=true:=by simp only [zkt,ol,jb,zar,zeg,zt8,el]
structure Pat where
  mask:Ar 10
  bits:Ar 10
deriving Inhabited,DecidableEq
def ePat (x:Pat):T:=.agg (x.mask.l.map (d7 .i64)++(x.bits.l.map (d7 .i64)))
theorem yar {n:Nat} (x:Pat):(ePat x).ids n=true:=by simp only [ePat,ol,jb,zar,zeg,el]
theorem zh5 (x:Pat):(ePat x).cells.length=20:=by simp only [ePat,gt,ez,gd,zv8,ek,Ar.len]
def zup (x:Pat):List Value:=x.mask.l.map (iz .i64)++(x.bits.l.map (iz .i64))
def ye8:List CK:=ew 10 (CK.int .i64)++(ew 10 (CK.int .i64))
theorem z9i (x:Pat):zgi (x.mask.l.map (d7 .i64)++(x.bits.l.map (d7 .i64)))=some (zup x):=(zmf (zjg _) (zjg _))
theorem ya6 (x:Pat):zfv ye8 (zup x)=true:=(z8c _ (ya5 _))
theorem yj7 (a b:Pat):a=b↔a.mask=b.mask/\a.bits=b.bits:=by cases a;cases b;simp
theorem yov (a b:Pat):eqVs (zup a) (zup b)=decide (a=b):=by
  rw [Bool.eq_iff_iff];simp [zup,yi3,z8h,eqVs,ztn,and_assoc,yj7]
structure Spot where
  port:Int
  tag:Int
deriving Inhabited,DecidableEq
def zd2 (x:Spot):T:=.agg ([d7 .i64 x.port,d7 .i64 x.tag])
theorem ydb {n:Nat} (x:Spot):jb n (zd2 x).cells=true:=by simp only [zd2,gt,ol,jb,zar,zeg,el]
theorem zrb {n:Nat} (x:Spot):(zd2 x).ids n=true:=by simp only [zd2,ol,jb,zar,zeg,el]
structure Alt where
  link:Int
  mod:Pat
deriving Inhabited,DecidableEq
def eAlt (x:Alt):T:=.agg (d7 .i64 x.link :: (x.mod.mask.l.map (d7 .i64)++(x.mod.bits.l.map (d7 .i64))))
theorem yhv {n:Nat} (x:Alt):jb n (eAlt x).cells=true:=by simp only [eAlt,gt,ol,jb,zar,zeg,el]
theorem zua {n:Nat} (x:Alt):(eAlt x).ids n=true:=by simp only [eAlt,ol,jb,zar,zeg,el]
theorem zc6 (x:Alt):(eAlt x).cells.length=21:=by simp only [eAlt,gt,ez,gd,zv8,ek,Ar.len]
theorem z1z (x:Alt):(eAlt x).cells.all T.one=true:=by simp only [eAlt,gt,ig,od,z2z,zso,zt4,zq3,zt2,zt3,el]
def zuq (x:Alt):List Value:=iz .i64 x.link :: (x.mod.mask.l.map (iz .i64)++(x.mod.bits.l.map (iz .i64)))
def ye9:List CK:=CK.int .i64 :: (ew 10 (CK.int .i64)++(ew 10 (CK.int .i64)))
theorem z9j (x:Alt):zgi (d7 .i64 x.link :: (x.mod.mask.l.map (d7 .i64)++(x.mod.bits.l.map (d7 .i64))))=some (zuq x):=(z7c rfl (zmf (zjg _) (zjg _)))
theorem ya7 (x:Alt):zfv ye9 (zuq x)=true:=(yif (ys6 _ _) (z8c _ (ya5 _)))
theorem yrj (a b:Alt):a=b↔a.link=b.link/\a.mod=b.mod:=by cases a;cases b;simp
theorem yow (a b:Alt):eqVs (zuq a) (zuq b)=decide (a=b):=by
  rw [Bool.eq_iff_iff];simp [zuq,yi3,z8h,eqVs,ztn,and_assoc,yj7,yrj]
def lAlt (l:List Alt):T:=.lst 21 (l.map eAlt)
theorem zt9 {n:Nat} (l:List Alt):(lAlt l).ids n=true:=zbu (fun x=>zua x) l
theorem z43 {n:Nat} (l:List Alt):jb n (l.map eAlt)=true:=zbu (fun x=>zua x) l
theorem z41 {n:Nat} (l:List Alt):jb n (vecC eAlt l)=true:=zh3 (fun x=>yhv x) l
def zbp (l:List (List Alt)):T:=.lst 1 (l.map lAlt)
theorem zra {n:Nat} (l:List (List Alt)):(zbp l).ids n=true:=zbu (fun x=>zt9 x) l
theorem zzv {n:Nat} (l:List (List Alt)):jb n (l.map lAlt)=true:=zbu (fun x=>zt9 x) l
theorem z59 (x:List Alt):(lAlt x).cells=[lAlt x]:=ej rfl rfl
theorem z4h (x:List Alt):T.one (lAlt x)=true:=ej rfl rfl
structure Rule where
  prio:Int
  mat:Pat
  step:Int
  outs:List (List Alt)
deriving Inhabited,DecidableEq
def zao (x:Rule):T:=.agg (d7 .i64 x.prio :: (x.mat.mask.l.map (d7 .i64)++(x.mat.bits.l.map (d7 .i64)++[d7 .i64 x.step,zbp x.outs])))
theorem ydc {n:Nat} (x:Rule):jb n (zao x).cells=true:=by simp only [zao,gt,ol,jb,zar,zeg,zra,el]
theorem zrc {n:Nat} (x:Rule):(zao x).ids n=true:=by simp only [zao,ol,jb,zar,zeg,zra,el]
theorem zch (x:Rule):(zao x).cells.length=23:=by simp only [zao,gt,ez,gd,zv8,ek,Ar.len]
theorem zvy (x:Rule):(zao x).cells.all T.one=true:=by simp only [zao,gt,ig,od,z2z,zso,zt4,zq3,zt2,zt3,el,zbp.eq_1]
def zas (l:List Rule):T:=.lst 23 (l.map zao)
theorem zq9 {n:Nat} (l:List Rule):(zas l).ids n=true:=zbu (fun x=>zrc x) l
theorem zzr {n:Nat} (l:List Rule):jb n (l.map zao)=true:=zbu (fun x=>zrc x) l
theorem zzk {n:Nat} (l:List Rule):jb n (vecC zao l)=true:=zh3 (fun x=>ydc x) l
def zau (l:List (List Rule)):T:=.lst 1 (l.map zas)
theorem zoz {n:Nat} (l:List (List Rule)):(zau l).ids n=true:=zbu (fun x=>zq9 x) l
theorem zwl {n:Nat} (l:List (List Rule)):jb n (l.map zas)=true:=zbu (fun x=>zq9 x) l
theorem z0l (x:List Rule):(zas x).cells=[zas x]:=ej rfl rfl
theorem zy8 (x:List Rule):T.one (zas x)=true:=ej rfl rfl
def zat (l:List zxo):T:=.lst 6 (l.map zkt)
theorem zoy {n:Nat} (l:List zxo):(zat l).ids n=true:=zbu (fun x=>zo1 x) l
theorem zwk {n:Nat} (l:List zxo):jb n (l.map zkt)=true:=zbu (fun x=>zo1 x) l
theorem zwi {n:Nat} (l:List zxo):jb n (vecC zkt l)=true:=zh3 (fun x=>z77 x) l
structure zbc where
  version:Int
  tables:List (List Rule)
  steps:List zxo
deriving Inhabited,DecidableEq
def zg9 (x:zbc):T:=.agg ([d7 .i64 x.version,zau x.tables,zat x.steps])
theorem zwq {n:Nat} (x:zbc):(zg9 x).ids n=true:=by simp only [zg9,ol,jb,zar,zeg,zoz,zoy,el]
structure zx6 where
  c:zbc
  e:Int
deriving Inhabited,DecidableEq
def ybl (x:zx6):T:=.agg ([d7 .i64 x.c.version,zau x.c.tables,zat x.c.steps,d7 .i64 x.e])
theorem zzz {n:Nat} (x:zx6):(ybl x).ids n=true:=by simp only [ybl,ol,jb,zar,zeg,zoz,zoy,el]
structure zfp where
  links:List Int
  node:Int
deriving Inhabited,DecidableEq
def zo5 (x:zfp):T:=.agg ([ints x.links,d7 .i64 x.node])
theorem ztd {n:Nat} (x:zfp):(zo5 x).ids n=true:=by simp only [zo5,ol,jb,zar,zeg,zo0,el]
def ztc (l:List ze2):T:=.lst 3 (l.map zgm)
theorem zzy {n:Nat} (l:List ze2):(ztc l).ids n=true:=zbu (fun x=>zo2 x) l
theorem zwm {n:Nat} (l:List ze2):jb n (l.map zgm)=true:=zbu (fun x=>zo2 x) l
theorem zwj {n:Nat} (l:List ze2):jb n (vecC zgm l)=true:=zh3 (fun x=>z78 x) l
def yqh (l:List Offl):T:=.lst 6 (l.map zrq)
theorem z46 {n:Nat} (l:List Offl):(yqh l).ids n=true:=zbu (fun x=>zrd x) l
theorem zzs {n:Nat} (l:List Offl):jb n (l.map zrq)=true:=zbu (fun x=>zrd x) l
theorem zzl {n:Nat} (l:List Offl):jb n (vecC zrq l)=true:=zh3 (fun x=>ydd x) l
def yqg (l:List Spot):T:=.lst 2 (l.map zd2)
theorem z45 {n:Nat} (l:List Spot):(yqg l).ids n=true:=zbu (fun x=>zrb x) l
theorem zzq {n:Nat} (l:List Spot):jb n (l.map zd2)=true:=zbu (fun x=>zrb x) l
theorem zzj {n:Nat} (l:List Spot):jb n (vecC zd2 l)=true:=zh3 (fun x=>ydb x) l
theorem ymf (ax:Axs) (a b:Pat):(∀ (S:TS) (x y:ep),tBin Tryz.prog (EE ax) S 101 .eql x y (.agg (a.mask.l.map (d7 .i64)++(a.bits.l.map (d7 .i64)))) (.agg (b.mask.l.map (d7 .i64)++(b.bits.l.map (d7 .i64))))=some (.bool (decide (a=b))))/\(∀ (S:TS) (x y:ep),tBin Tryz.prog (EE ax) S 101 .neq x y (.agg (a.mask.l.map (d7 .i64)++(a.bits.l.map (d7 .i64)))) (.agg (b.mask.l.map (d7 .i64)++(b.bits.l.map (d7 .i64))))=some (.bool (!(decide (a=b))))):=⟨fun _ _ _=>(z05 (sh:=ye8) (by kernel_rfl) (by kernel_rfl) (z9i a) (z9i b) (ya6 a) (ya6 b) (yov a b)).1,fun _ _ _=>(z05 (sh:=ye8) (by kernel_rfl) (by kernel_rfl) (z9i a) (z9i b) (ya6 a) (ya6 b) (yov a b)).2⟩
theorem yti (ax:Axs) (a b:Alt):(∀ (S:TS) (x y:ep),tBin Tryz.prog (EE ax) S 123 .eql x y (.agg (d7 .i64 a.link :: (a.mod.mask.l.map (d7 .i64)++(a.mod.bits.l.map (d7 .i64))))) (.agg (d7 .i64 b.link :: (b.mod.mask.l.map (d7 .i64)++(b.mod.bits.l.map (d7 .i64)))))=some (.bool (decide (a=b))))/\(∀ (S:TS) (x y:ep),tBin Tryz.prog (EE ax) S 123 .neq x y (.agg (d7 .i64 a.link :: (a.mod.mask.l.map (d7 .i64)++(a.mod.bits.l.map (d7 .i64))))) (.agg (d7 .i64 b.link :: (b.mod.mask.l.map (d7 .i64)++(b.mod.bits.l.map (d7 .i64)))))=some (.bool (!(decide (a=b))))):=⟨fun _ _ _=>(z05 (sh:=ye9) (by kernel_rfl) (by kernel_rfl) (z9j a) (z9j b) (ya7 a) (ya7 b) (yow a b)).1,fun _ _ _=>(z05 (sh:=ye9) (by kernel_rfl) (by kernel_rfl) (z9j a) (z9j b) (ya7 a) (ya7 b) (yow a b)).2⟩
theorem eqA:type_of% (dx (dx (dx (dx (@ints.eq_1) (dx (@zlw.eq_1) (@strs.eq_1))) (dx (@zrr.eq_1) (dx (@zrq.eq_1) (@zrs.eq_1)))) (dx (dx (@zgm.eq_1) (dx (@zrt.eq_1) (@zax.eq_1))) (dx (@zay.eq_1) (dx (@zaz.eq_1) (@eNet.eq_1))))) (dx (dx (dx (@zkt.eq_1) (dx (@ePat.eq_1) (@zd2.eq_1))) (dx (@eAlt.eq_1) (dx (@lAlt.eq_1) (@zbp.eq_1)))) (dx (dx (@z59) (dx (@z4h) (@zao.eq_1))) (dx (@zas.eq_1) (dx (@zau.eq_1) (@z0l)))))):=dx (dx (dx (dx (@ints.eq_1) (dx (@zlw.eq_1) (@strs.eq_1))) (dx (@zrr.eq_1) (dx (@zrq.eq_1) (@zrs.eq_1)))) (dx (dx (@zgm.eq_1) (dx (@zrt.eq_1) (@zax.eq_1))) (dx (@zay.eq_1) (dx (@zaz.eq_1) (@eNet.eq_1))))) (dx (dx (dx (@zkt.eq_1) (dx (@ePat.eq_1) (@zd2.eq_1))) (dx (@eAlt.eq_1) (dx (@lAlt.eq_1) (@zbp.eq_1)))) (dx (dx (@z59) (dx (@z4h) (@zao.eq_1))) (dx (@zas.eq_1) (dx (@zau.eq_1) (@z0l)))))
theorem eqB:type_of% (dx (dx (dx (dx (@zy8) (@zat.eq_1)) (dx (@zg9.eq_1) (@ybl.eq_1))) (dx (dx (@zo5.eq_1) (@ztc.eq_1)) (dx (@yqh.eq_1) (@yqg.eq_1)))) (dx (dx (dx (@yd0) (@z26)) (dx (@ydz) (@z25))) (dx (dx (@ydy) (@z24)) (dx (@ydw) (@z23))))):=dx (dx (dx (dx (@zy8) (@zat.eq_1)) (dx (@zg9.eq_1) (@ybl.eq_1))) (dx (dx (@zo5.eq_1) (@ztc.eq_1)) (dx (@yqh.eq_1) (@yqg.eq_1)))) (dx (dx (dx (@yd0) (@z26)) (dx (@ydz) (@z25))) (dx (dx (@ydy) (@z24)) (dx (@ydw) (@z23))))
theorem eqsA:type_of% (dx (dx (dx (dx (@yfb) (dx (@sgT) (@sgT1))) (dx (@sgD) (dx (@sgD1) (@sgG)))) (dx (dx (@splA) (dx (@yr2) (@yr1))) (dx (@splS) (dx (@yjy) (@z6o))))) (dx (dx (dx (@zv8) (dx (@z2z) (@z3b))) (dx (@z5s) (dx (@yni) (@ysr)))) (dx (dx (@ynh) (dx (@yhl) (@yi7))) (dx (@yrk) (dx (@Ar.len) (@zso)))))):=dx (dx (dx (dx (@yfb) (dx (@sgT) (@sgT1))) (dx (@sgD) (dx (@sgD1) (@sgG)))) (dx (dx (@splA) (dx (@yr2) (@yr1))) (dx (@splS) (dx (@yjy) (@z6o))))) (dx (dx (dx (@zv8) (dx (@z2z) (@z3b))) (dx (@z5s) (dx (@yni) (@ysr)))) (dx (dx (@ynh) (dx (@yhl) (@yi7))) (dx (@yrk) (dx (@Ar.len) (@zso)))))
theorem eqsB:type_of% (dx (dx (dx (@z6f) (@z20)) (dx (@yo6) (@sub0))) (dx (dx (@z89) (@z2q)) (dx (@yej) (dx (@yo7) (@yj2))))):=dx (dx (dx (@z6f) (@z20)) (dx (@yo6) (@sub0))) (dx (dx (@z89) (@z2q)) (dx (@yej) (dx (@yo7) (@yj2))))
theorem idsA:type_of% (dx (dx (dx (dx (@zo0) (dx (@z44) (@z47))) (dx (@zzx) (dx (@zzp) (@zt8)))) (dx (dx (@z42) (dx (@zre) (@zrd))) (dx (@zrf) (dx (@zo2) (@zrg))))) (dx (dx (dx (@zwn) (dx (@zzt) (@zzm))) (dx (@zwo) (dx (@zzu) (@zzn)))) (dx (dx (@zwp) (dx (@zzw) (@zzo))) (dx (@yas) (dx (@zo1) (@yar)))))):=dx (dx (dx (dx (@zo0) (dx (@z44) (@z47))) (dx (@zzx) (dx (@zzp) (@zt8)))) (dx (dx (@z42) (dx (@zre) (@zrd))) (dx (@zrf) (dx (@zo2) (@zrg))))) (dx (dx (dx (@zwn) (dx (@zzt) (@zzm))) (dx (@zwo) (dx (@zzu) (@zzn)))) (dx (dx (@zwp) (dx (@zzw) (@zzo))) (dx (@yas) (dx (@zo1) (@yar)))))
theorem idsB:type_of% (dx (dx (dx (dx (@zrb) (dx (@zua) (@zt9))) (dx (@z43) (dx (@z41) (@zra)))) (dx (dx (@zzv) (dx (@zrc) (@zq9))) (dx (@zzr) (dx (@zzk) (@zoz))))) (dx (dx (dx (@zwl) (dx (@zoy) (@zwk))) (dx (@zwi) (dx (@zwq) (@zzz)))) (dx (dx (@ztd) (dx (@zzy) (@zwm))) (dx (@zwj) (dx (@z46) (@zzs)))))):=dx (dx (dx (dx (@zrb) (dx (@zua) (@zt9))) (dx (@z43) (dx (@z41) (@zra)))) (dx (dx (@zzv) (dx (@zrc) (@zq9))) (dx (@zzr) (dx (@zzk) (@zoz))))) (dx (dx (dx (@zwl) (dx (@zoy) (@zwk))) (dx (@zwi) (dx (@zwq) (@zzz)))) (dx (dx (@ztd) (dx (@zzy) (@zwm))) (dx (@zwj) (dx (@z46) (@zzs)))))
theorem idsC:type_of% (dx (dx (dx (@zzl) (@z45)) (dx (@zzq) (@zzj))) (dx (dx (@yat) (@zeg)) (dx (@yhw) (@zar)))):=dx (dx (dx (@zzl) (@z45)) (dx (@zzq) (@zzj))) (dx (dx (@yat) (@zeg)) (dx (@yhw) (@zar)))
structure ydt (ax:Axs):Prop where
  no:∀ f,er f 8=false->ax f=none
  san:Pure Tryz.prog (EE ax) [] 8 [] (.bool true)
theorem Pure.clr {P:fe} {Γ:Env} {GL:List (Nat×List Value)} {f:FuncId} {args:List T} {v v2:T} {S:TS} (k:Pure P Γ GL f args v) (e:v=v2):zap P Γ GL f args S v2:=e ▸ k.call S
mutual
inductive Rt (W:World):T->Value->Prop
  |int (k n):Rt W (.int k n) (.int k n)
  |bool (b):Rt W (.bool b) (.bool b)
  |str (b):Rt W (.str b) (.string b)
  |agg {l cs}:RtL W l cs->Rt W (.agg l) (.agg ⟨cs⟩)
  |nil {e}:Rt W (.lst e []) (.slice none 0 0)
  |zero {e a}:0<e->0<W.heap.size->Rt W (.lst e []) (.slice (some a) 0 0)
  |lst {e l b off cap cs}:RtL W (l.flatMap gt) cs->(∀ t,t∈l->t.cells.length=e)->0<e->l.length<=cap->cap<=maxLen->(W.cell? ⟨b,off,none⟩).isSome=true->(∀ (j:Nat) u,cs[j]?=some u->W.cell? ⟨b,off+j,none⟩=some u)->Rt W (.lst e l) (.slice (some ⟨b,off,none⟩) l.length cap)
inductive RtL (W:World):List T->List Value->Prop
  |nil:RtL W [] []
  |cons {t v l vs}:Rt W t v->RtL W l vs->RtL W (t :: l) (v :: vs)
end
section
variable {W:World} {N:Nat} {G:List Nat} {K:List (Nat×List Value)}
theorem RtL.len:∀ {l:List T} {vs:List Value},RtL W l vs->l.length=vs.length
  |_,_,.nil=>rfl
  |_,_,.cons _ h=>by rw [ez,ez,h.len]
theorem z8s {b j k:Nat} (h:(W.cell? ⟨b,k,none⟩).isSome=true) (hj:j<=k):(W.cell? ⟨b,j,none⟩).isSome=true:=by
  unfold World.cell? at h ⊢;simp only at h ⊢;split at h
  . rename_i c _ _ hb;simp only [Option.isSome_none,Bool.false_eq_true,if_false] at h ⊢
    have:k<c.size:=by
      by_cases hk:k<c.size
      . exact hk
      . rw [Array.getElem?_eq_none (by omega)] at h;simp at h
    rw [jq (by omega)];rfl
  . simp at h
theorem yl4 {b k:Nat} (h:(W.cell? ⟨b,k,none⟩).isSome=true):b<W.heap.size:=by
  unfold World.cell? at h;simp only at h;by_cases hb:b<W.heap.size
  . exact hb
  . rw [Array.getElem?_eq_none (by omega)] at h;simp at h
theorem zvg {u:Nat} {m:List (Nat×List Value)}:∀ {l:List (Nat×List Value)},(∀ p,p∈l->p.1≠u)->zcb (l++m) u=zcb m u
  |[],_=>rfl
  |p :: l,h=>by
    show (bif er p.1 u then some p.2 else zcb (l++m) u)=_;rw [zps (h p (by simp)),cond_false];exact zvg fun q hq=>h q (by simp [hq])
theorem zu7 {f:Nat} {q:Seg}:∀ {F:List Seg} {i j:Nat},F[i]?=some q->q.b=f->zcb (zk1 N f j F) ((N+(j+i))*1024)=some q.cs
  |[],i,j,h,_=>by simp at h
  |p :: F,0,j,h,hb=>by
    simp only [fx,dy] at h;subst h;unfold zk1;rw [zAc hb]
    simp [zcb,Nat.beq_refl]
  |p :: F,i+1,j,h,hb=>by
    have ih:=zu7 (F:=F) (i:=i) (j:=j+1) (by simpa using h) hb;rw [show j+1+i=j+(i+1) by omega] at ih;unfold zk1;split
    . unfold zcb
      have:er ((N+j)*1024) ((N+(j+(i+1)))*1024)=false:=by
        cases hq:er ((N+j)*1024) ((N+(j+(i+1)))*1024) with
        |false=>rfl
        |true=>have:=eg hq;omega
      rw [this];exact ih
    . exact ih
def Low (N:Nat):Nat->Prop:=fun f=>f<N
structure En (W:World) (N:Nat) (G:List Nat) (K:List (Nat×List Value)) (pre A:List Seg) (l:List T) (xs vs:List Value):Prop where
  vr:∀ post,RL (VR (sgS N G K (pre++A++post))) xs vs
  vl:∀ post,VL (Low N) bx0 (famS N K (pre++A++post)) l xs
  at_:∀ post q,q∈A->yto (sgS N G K (pre++A++post)) W q
theorem yr3 (hK:∀ p,p∈K->has G p.1=true) (hG:∀ g,has G g=true->g<N) {F:List Seg} {i:Nat} {q:Seg} (hq:F[i]?=some q) (hb:q.b<N) :
    sgS N G K F q.b ((N+i)*1024)=some (q.b,q.o,q.o+q.cs.length)/\zcb (famS N K F q.b).rows ((N+i)*1024)=some q.cs:=by
  constructor
  . unfold sgS;rw [zAd (by rintro ⟨_,h⟩;omega),zAc (by omega)];have e:(N+i)*1024 / 1024 - N=i:=by omega
    rw [e,hq];show (if q.b=q.b then _ else _)=_;rw [zAc rfl]
  . show zcb ((famK K q.b).rows++zk1 N q.b 0 F) _=_;rw [zvg fun p hp=>?_]
    . have:=zu7 (N:=N) (j:=0) hq rfl
      rwa [f6] at this
    . obtain ⟨h1,h2,_⟩:=zw0 hp;have:=hG _ (hK _ h2);rw [h1];simp only at this;omega
theorem yhr {α:Type} (pre A post:List α) (q:α):(pre++(A++[q])++post)[pre.length+A.length]?=some q:=by
  rw [ey,ey,gm (by omega),gm (by omega)];simp
mutual
theorem ent (hN:N=W.heap.size) (hK:∀ p,p∈K->has G p.1=true) (hG:∀ g,has G g=true->g<N):∀ {t:T} {v:Value},Rt W t v->∀ pre,∃ A x,En W N G K pre A [t] [x] [v]
  |_,_,.int k n,pre=>⟨[],.int k n,⟨fun _=>⟨zig 3 rfl,trivial⟩,fun _=>.cons (.int k n) .nil,fun _ q hq=>by simp at hq⟩⟩
  |_,_,.bool b,pre=>⟨[],.bool b,⟨fun _=>⟨zig 3 rfl,trivial⟩,fun _=>.cons (.bool b) .nil,fun _ q hq=>by simp at hq⟩⟩
  |_,_,.str b,pre=>⟨[],.string b,⟨fun _=>⟨zig 3 rfl,trivial⟩,fun _=>.cons (.str b) .nil,fun _ q hq=>by simp at hq⟩⟩
  |_,_,.agg h,pre=>by
    obtain ⟨A,xs,k⟩:=entL hN hK hG h pre;exact ⟨A,.agg ⟨xs⟩,fun post=>⟨VR.mk ⟨_,rfl,k.vr post⟩,trivial⟩,fun post=>.cons (.agg (k.vl post)) .nil,k.at_⟩
  |_,_,.nil,pre=>⟨[],.slice none 0 0,⟨fun _=>⟨VR.mk ⟨rfl,rfl,rfl⟩,trivial⟩,fun _=>.cons .lnil .nil,fun _ q hq=>by simp at hq⟩⟩
  |.lst e _,.slice _ _ _,@Rt.zero _ _ a he hs,pre=>by
    have hi:=fun post=>yhr pre [] post (⟨0,0,[]⟩:Seg);have h0:∀ post,_:=fun post=>yr3 (q:=(⟨0,0,[]⟩:Seg)) hK hG (hi post) (by show 0<N;omega);refine ⟨[⟨0,0,[]⟩],.slice (some (mkA 0 ((N+(pre.length+0))*1024) 0)) 0 0,⟨fun post=>⟨VR.mk ⟨0,0,_,(h0 post).1,a,0,rfl,ei _,ei _,gb _,fun h=>absurd rfl h,fun _=>rfl,fun _ h=>absurd rfl h⟩,trivial⟩,fun post=>.cons ?_ .nil,fun post q hq=>?_⟩⟩
    . exact .lst (l:=[]) (cs:=[]) (show (0:Nat)<N by omega) (h0 post).2 .nil (fun t ht=>by simp at ht) he rfl (.inl (by omega)) (ei _)
    . simp only [jv] at hq;subst hq;exact ⟨hs,fun j hj=>by simp at hj,fun j u hu=>by simp at hu⟩
  |.lst e l,.slice _ _ cap,@Rt.lst _ _ _ b off _ cs h hs he hl hm hc hcell,pre=>by
    obtain ⟨A,xs,k⟩:=entL hN hK hG h pre;have hxl:xs.length=cs.length:=(k.vr []).length;have hb:b<W.heap.size:=yl4 hc;have hi:=fun post=>yhr pre A post (⟨b,off,xs⟩:Seg);have h0:=fun post=>yr3 (q:=(⟨b,off,xs⟩:Seg)) hK hG (hi post) (by show b<N;omega);have hF:∀ post,pre++(A++[⟨b,off,xs⟩])++post=pre++A++((⟨b,off,xs⟩:Seg) :: post):=fun post=>by simp
    refine ⟨A++[⟨b,off,xs⟩],.slice (some (mkA b ((N+(pre.length+A.length))*1024) 0)) l.length cap,⟨fun post=>⟨VR.mk ⟨b,off,_,(h0 post).1,⟨b,off,none⟩,cap,rfl,hl,ei _,hm,fun _=>rfl,fun _=>rfl,fun ht=>?_⟩,trivial⟩,fun post=>.cons ?_ .nil,fun post q hq=>?_⟩⟩
    . rw [zjy] at ht;omega
    . refine .lst (cs:=xs) (show b<N by omega) (h0 post).2 ?_ hs he (by rw [fl,List.take_length]) (.inl (by omega)) hl;rw [hF];exact k.vl _
    . rcases List.mem_append.1 hq with hq|hq
      . rw [hF];exact k.at_ _ q hq
      . simp only [jv] at hq;subst hq;refine ⟨hb,fun j hj=>?_,fun j u hu=>?_⟩
        . have hj:j<off+xs.length:=hj;by_cases h1:j<=off
          . exact z8s hc h1
          . have hjc:j - off<cs.length:=by omega
            have:=hcell (j - off) _ (ef hjc);rw [show off+(j - off)=j by omega] at this;rw [this];rfl
        . have hju:j<xs.length:=(et.1 hu).1;have hu:xs[j]?=some u:=hu;have hcs:=ef (l:=cs) (i:=j) (by omega);refine ⟨_,hcell j _ hcs,?_⟩;rw [hF];obtain ⟨y,hy1,hy2⟩:=(k.vr (⟨b,off,xs⟩ :: post)).at hu;rw [hcs] at hy1;cases hy1;exact hy2
theorem entL (hN:N=W.heap.size) (hK:∀ p,p∈K->has G p.1=true) (hG:∀ g,has G g=true->g<N):∀ {l:List T} {vs:List Value},RtL W l vs->∀ pre,∃ A xs,En W N G K pre A l xs vs
  |_,_,.nil,pre=>⟨[],[],⟨fun _=>trivial,fun _=>.nil,fun _ q hq=>by simp at hq⟩⟩
  |_,_,.cons h1 h2,pre=>by
    obtain ⟨A1,x,k1⟩:=ent hN hK hG h1 pre;obtain ⟨A2,xs,k2⟩:=entL hN hK hG h2 (pre++A1);have e1:∀ post,pre++(A1++A2)++post=pre++A1++(A2++post):=fun post=>by simp
    have e2:∀ post,pre++(A1++A2)++post=pre++A1++A2++post:=fun post=>by simp
    refine ⟨A1++A2,x :: xs,⟨fun post=>⟨?_,?_⟩,fun post=>?_,fun post q hq=>?_⟩⟩
    . rw [e1];exact (k1.vr _).1
    . rw [e2];exact k2.vr _
    . have a:=k1.vl (A2++post);have b:=k2.vl post;rw [<- e1] at a;rw [<- e2] at b
      cases a with
      |cons a _=>exact .cons a b
    . rcases List.mem_append.1 hq with hq|hq
      . rw [e1];exact k1.at_ _ q hq
      . rw [e2];exact k2.at_ _ q hq
end
end
inductive Sh where
  |int (k:gl)
  |bool
  |str
  |slice (e:Sh)
  |struct (l:List Sh)
  |arr (k:gl) (n:Nat)
mutual
def Sh.sz:Sh->Nat
  |.struct l=>Sh.szL l
  |.arr _ n=>n
  |_=>1
def Sh.szL:List Sh->Nat
  |[]=>0
  |s :: l=>s.sz+Sh.szL l
end
mutual
def shOk (P:fe):Sh->fc->Bool
  |.int k,t=>match P.underlying t with|some (.int k')=>decide (k=k')|_=>false
  |.bool,t=>match P.underlying t with|some .bool=>true|_=>false
  |.str,t=>match P.underlying t with|some .string=>true|_=>false
  |.slice s,t=>match P.underlying t with|some (.slice e)=>er (P.cellsOf e) s.sz && (fw 0 s.sz && shOk P s e)|_=>false
  |.struct l,t=>match P.underlying t with|some (.struct fs)=>er (P.cellsOf t) (Sh.szL l) && ycs P l fs.toList 0|_=>false
  |.arr k n,t=>match P.underlying t with|some (.array m e)=>er m n && (er (P.cellsOf t) n && (er (P.cellsOf e) 1 && (match P.underlying e with|some (.int k')=>decide (k=k')|_=>false)))|_=>false
def ycs (P:fe):List Sh->List Field->Nat->Bool
  |[],[],_=>true
  |s :: l,f :: fs,o=>er f.offset o && (er (P.cellsOf f.type) s.sz && (shOk P s f.type && ycs P l fs (o+s.sz)))
  |_,_,_=>false
end
mutual
def conf:Sh->T->Prop
  |.int k,t=>∃ n,t=.int k n/\(Lit.int k n).wf=true
  |.bool,t=>∃ b,t=.bool b
  |.str,t=>∃ s,t=.str s/\s.size<=maxLen
  |.slice e,t=>∃ l,t=.lst e.sz l/\l.length<=maxLen/\∀ x,x∈l->conf e x
  |.struct l,t=>∃ cs,t=.agg cs/\yqy l cs
  |.arr k n,t=>∃ a:Ar n,t=.agg (a.l.map (d7 k))/\∀ x,x∈a.l->(Lit.int k x).wf=true
def yqy:List Sh->List T->Prop
  |[],cs=>cs=[]
  |s :: l,cs=>∃ x r,cs=x.cells++r/\conf s x/\yqy l r
end
theorem yjh {α:Type} {p:Nat->α->Prop}:∀ n,(∀ i,i<n->∃ x,p i x)->∃ l:List α,l.length=n/\∀ i (hi:i<l.length),p i l[i]:=by
  intro n
  induction n with
  |zero=>intro _;exact ⟨[],rfl,fun i hi=>by simp at hi⟩
  |succ n ih =>
    intro h;obtain ⟨l,hl,hp⟩:=ih (fun i hi=>h i (by omega));obtain ⟨x,hx⟩:=h n (by omega);refine ⟨l++[x],by simp [hl],fun i hi=>?_⟩;by_cases hin:i<l.length
    . rw [List.getElem_append_left hin];exact hp i hin
    . have:i=l.length:=by simp at hi;omega
      subst this;rw [List.getElem_append_right (ei _)];simpa [hl] using hx
section
variable {H:Type} {enc:fc×Value->H} {P:fe} {W:World}
theorem RtL.append:∀ {l l2:List T} {vs vs2:List Value},RtL W l vs->RtL W l2 vs2->RtL W (l++l2) (vs++vs2)
  |_,_,_,_,.nil,k=>k
  |_,_,_,_,.cons h k,k2=>.cons h (k.append k2)
theorem RtL.flat:∀ {l:List (T×List Value)},(∀ p,p∈l->RtL W p.1.cells p.2)->RtL W ((l.map (·.1)).flatMap gt) (l.map (·.2)).flatten
  |[],_=>.nil
  |p :: l,h=>by
    rw [ge,iv,ge,gh];exact (h p (by simp)).append (RtL.flat fun q hq=>h q (by simp [hq]))
theorem zz3 {b k:Nat}:∀ {l:List (List Value)} {o:Nat},(∀ c,c∈l->c.length=k)->(∀ (i:Nat) c,l[i]?=some c->∀ j,j<k->W.cell? ⟨b,o+i*k+j,none⟩=c[j]?)->∀ (j:Nat) u,l.flatten[j]?=some u->W.cell? ⟨b,o+j,none⟩=some u
  |[],o,_,_,j,u,h=>by simp at h
  |c :: l,o,hl,hc,j,u,h=>by
    have hck:=hl c (by simp);rw [gh] at h;by_cases hj:j<c.length
    . rw [fk hj] at h;have:=hc 0 c rfl j (by omega);rw [Nat.zero_mul,ii] at this;rw [this,h]
    . rw [gm (by omega)] at h
      have:=zz3 (o:=o+k) (fun c hc=>hl c (by simp [hc])) (fun i c' hi j hj=>by
        have:=hc (i+1) c' (by simpa using hi) j hj;rw [show o+(i+1)*k+j=o+k+i*k+j by rw [jc];omega] at this
        exact this) (j - c.length) u h
      rw [show o+k+(j - c.length)=o+j by omega] at this;exact this
def zxn (W:World) (cs:List Value):Prop:=∀ v,v∈cs->(∃ a n c,v=.slice (some a) n c)->0<W.heap.size
theorem zxn.of (h:0<W.heap.size) (cs:List Value):zxn W cs:=fun _ _ _=>h
theorem zxn.sub {cs cs':List Value} (h:zxn W cs) (hs:∀ v,v∈cs'->v∈cs):zxn W cs':=fun v hv=>h v (hs v hv)
theorem ycr {s:Sh} {e t:fc} {fuel:Nat} {cs:List Value} {x:DataW H×List MemPlace} (ht:P.underlying t=some (.slice e)) (hsz:P.cellsOf e=s.sz) (hpos:0<s.sz)
    (ih:∀ {fuel:Nat} {cs:List Value} {x:DataW H×List MemPlace},DataW.trod enc P W 0 (fun _=>true) true fuel e cs=some x->zxn W cs->∃ tr,conf s tr/\RtL W tr.cells cs)
    (h:DataW.trod enc P W 0 (fun _=>true) true fuel t cs=some x) (hz:zxn W cs):∃ tr,conf (.slice s) tr/\RtL W tr.cells cs:=by
  rcases Go.Deep.open_slice ht h with ⟨rfl,_⟩|⟨a,len,cap,m,n,D,Pl,rfl,hb,hl,hm,hmm,_,hall⟩
  . exact ⟨.lst s.sz [],⟨[],rfl,gb _,fun x hx=>by simp at hx⟩,.cons .nil .nil⟩
  . have hh:0<W.heap.size:=hz (.slice (some a) len cap) (by simp) ⟨_,_,_,rfl⟩;simp only [if_true] at hmm;subst hmm;rw [hsz] at hall;by_cases h0:m=0
    . subst h0;have:len=0:=by omega
      subst this;exact ⟨.lst s.sz [],⟨[],rfl,gb _,fun x hx=>by simp at hx⟩,.cons (.zero hpos hh) .nil⟩
    obtain ⟨cs0,hc0,_⟩:=hall 0 (by omega);obtain ⟨_,hl0,hcc0⟩:=World.cells?_some hc0
    have hcell0:((W.cell? ((a.add (0*s.sz)).add 0))).isSome=true:=by
      rw [hcc0 0 hpos,ef (by omega)];rfl
    obtain ⟨b,off,spot⟩:=a
    have hspot:spot=none:=by
      cases hq:W.cell? (((⟨b,off,spot⟩:Addr).add (0*s.sz)).add 0) with
      |none=>rw [hq] at hcell0;simp at hcell0
      |some u=>simpa [Addr.add] using World.cell?_spot hq
    subst hspot;simp only [mo,Nat.zero_mul,ii] at hcell0
    obtain ⟨l,hll,hp⟩:=yjh (p:=fun i (p:T×List Value)=>conf s p.1/\RtL W p.1.cells p.2/\p.2.length=s.sz/\∀ j,j<s.sz->W.cell? ⟨b,off+i*s.sz+j,none⟩=p.2[j]?) len (fun i hi=>by
      obtain ⟨cs',h1,h2⟩:=hall i (by omega);obtain ⟨tr,k1,k2⟩:=ih h2 (zxn.of hh _);obtain ⟨-,hcl,hcc⟩:=World.cells?_some h1
      exact ⟨(tr,cs'),k1,k2,hcl,fun j hj=>by have:=hcc j hj;rw [mo,mo] at this;exact this⟩)
    have hmem:∀ p,p∈l->∃ i,i<l.length/\l[i]?=some p/\conf s p.1/\RtL W p.1.cells p.2/\p.2.length=s.sz:=fun p hp'=>by
      obtain ⟨i,hi,rfl⟩:=lq hp';exact ⟨i,hi,ef hi,(hp i hi).1,(hp i hi).2.1,(hp i hi).2.2.1⟩
    refine ⟨.lst s.sz (l.map (·.1)),⟨_,rfl,by rw [ek];omega,fun x hx=>?_⟩,.cons ?_ .nil⟩
    . obtain ⟨p,hp1,rfl⟩:=ip.1 hx;obtain ⟨_,_,_,k,_⟩:=hmem p hp1;exact k
    . have:=Rt.lst (W:=W) (e:=s.sz) (l:=l.map (·.1)) (b:=b) (off:=off) (cap:=m) (cs:=(l.map (·.2)).flatten) (RtL.flat fun p hp1=>by obtain ⟨_,_,_,_,k,_⟩:=hmem p hp1;exact k) (fun t ht'=>?_) hpos (by rw [ek];omega) hm hcell0 ?_
      . rw [ek,hll] at this;exact this
      . obtain ⟨p,hp1,rfl⟩:=ip.1 ht';obtain ⟨_,_,_,_,k,k2⟩:=hmem p hp1;rw [k.len,k2]
      . refine zz3 (k:=s.sz) (fun c hc=>?_) (fun i c hi=>?_)
        . obtain ⟨p,hp1,rfl⟩:=ip.1 hc;obtain ⟨_,_,_,_,_,k2⟩:=hmem p hp1;exact k2
        . rw [ki] at hi
          cases hq:l[i]? with
          |none=>rw [hq] at hi;simp at hi
          |some p =>
            rw [hq] at hi;simp only [Option.map_some,dy] at hi;subst hi;have hil:=(et.1 hq).1;have:l[i]=p:=(et.1 hq).2;have:=(hp i hil).2.2.2;rw [‹l[i]=p›] at this;exact this
theorem ycg {W:World} {k:gl}:∀ (l:List Int),RtL W (l.map (d7 k)) (l.map (iz k))
  |[]=>.nil
  |x :: l=>.cons (.int _ _) (ycg l)
theorem beqN {a b:Nat} (h:er a b=true):a=b:=eg h
mutual
theorem zvx:∀ {s:Sh} {t:fc} {fuel:Nat} {cs:List Value} {x:DataW H×List MemPlace},shOk P s t=true->DataW.trod enc P W 0 (fun _=>true) true fuel t cs=some x->zxn W cs->∃ tr,conf s tr/\RtL W tr.cells cs
  |.int k,t,fuel,cs,x,hs,h,hz=>by
    unfold shOk at hs;split at hs
    . rename_i k' hu;have:k=k':=zAe hs;subst this;obtain ⟨n,rfl,-,hw⟩:=DataW.trod_int hu h;exact ⟨.int k n,⟨n,rfl,hw⟩,.cons (.int k n) .nil⟩
    . simp at hs
  |.bool,t,fuel,cs,x,hs,h,hz=>by
    unfold shOk at hs;split at hs
    . rename_i hu;obtain ⟨b,rfl,-⟩:=DataW.trod_bool hu h;exact ⟨.bool b,⟨b,rfl⟩,.cons (.bool b) .nil⟩
    . simp at hs
  |.str,t,fuel,cs,x,hs,h,hz=>by
    unfold shOk at hs;split at hs
    . rename_i hu;obtain ⟨b,rfl,-,hb⟩:=DataW.trod_string hu h;exact ⟨.str b,⟨b,rfl,hb⟩,.cons (.str b) .nil⟩
    . simp at hs
  |.slice s,t,fuel,cs,x,hs,h,hz=>by
    unfold shOk at hs;split at hs
    . rename_i e hu;simp only [d8] at hs;exact ycr hu (beqN hs.1) (zaf.1 hs.2.1) (fun h hz=>zvx hs.2.2 h hz) h hz
    . simp at hs
  |.struct l,t,fuel,cs,x,hs,h,hz=>by
    unfold shOk at hs;split at hs
    . rename_i fs hu;simp only [d8] at hs;obtain ⟨xs,n,-,-,hl,hxl,hall⟩:=DataW.trod_struct hu h
      obtain ⟨ts,k1,k2⟩:=z98 (fs:=fs.toList) (o:=0) (pre:=cs) (fuel:=n) hs.2 (fun f hf=>by
        obtain ⟨i,hi,rfl⟩:=lq hf;have hi':i<fs.size:=by simpa using hi
        have:=hall i fs[i] (jq hi');rw [ef (by omega)] at this
        exact ⟨_,by rw [Array.getElem_toList];exact this⟩) (by rw [hl,beqN hs.1];omega) hz
      rw [fl] at k2;have hlen:cs.take (Sh.szL l)=cs:=gc (by rw [hl,beqN hs.1];exact ei _);rw [hlen] at k2;exact ⟨.agg ts,⟨ts,rfl,k1⟩,k2⟩
    . simp at hs
  |.arr k n,t,fuel,cs,x,hs,h,hz=>by
    unfold shOk at hs;split at hs
    . rename_i m e hu;simp only [d8] at hs;obtain ⟨h1,h2,h3,h4⟩:=hs;split at h4
      . rename_i k' he;have hkk:k=k':=zAe h4;subst hkk;have hmn:=beqN h1;subst hmn;obtain ⟨xs,fu,rfl,hx1,hlen,hxl,hel⟩:=DataW.trod_array hu h;have hl:cs.length=m:=by rw [hlen];exact beqN h2
        have key:∀ i,i<m->∃ z,cs[i]?=some (.int k z)/\(Lit.int k z).wf=true:=by
          intro i hi;have h0:=hel i hi;rw [beqN h3,Nat.mul_one,ef (by omega)] at h0;obtain ⟨z,e1,e2,e3⟩:=DataW.trod_int he h0;refine ⟨z,?_,e3⟩;have:(cs.drop i)[0]?=((cs.drop i).take 1)[0]?:=by rw [List.getElem?_take_of_lt (by omega)]
          have e1':(cs.drop i).take 1=[.int k z]:=e1;rw [e1'] at this;simpa using this
        obtain ⟨l,hl2,hp⟩:=yjh (p:=fun i (z:Int)=>cs[i]?=some (.int k z)/\(Lit.int k z).wf=true) m key
        have hcl:cs=l.map (iz k):=by
          apply List.ext_getElem (by rw [hl,ek,hl2]);intro i h1 h2;have:=(hp i (by rw [hl2,<- hl];exact h1)).1;rw [ef h1] at this;rw [List.getElem_map];exact Option.some.inj this
        refine ⟨.agg (l.map (d7 k)),⟨⟨l,hl2⟩,rfl,fun x hx=>?_⟩,?_⟩
        . obtain ⟨i,hi,rfl⟩:=lq hx;exact (hp i hi).2
        . rw [hcl];exact ycg l
      . simp at h4
    . simp at hs
theorem z98:∀ {l:List Sh} {fs:List Field} {o fuel:Nat} {pre:List Value},ycs P l fs o=true->(∀ f,f∈fs->∃ x,DataW.trod enc P W 0 (fun _=>true) true fuel f.type ((pre.drop f.offset).take (P.cellsOf f.type))=some x)->o+Sh.szL l<=pre.length->zxn W pre->∃ ts,yqy l ts/\RtL W ts ((pre.drop o).take (Sh.szL l))
  |[],[],o,fuel,pre,hs,h,hl,hz=>⟨[],rfl,by unfold Sh.szL;rw [l9];exact .nil⟩
  |[],_ :: _,o,fuel,pre,hs,h,hl,hz=>by simp [ycs] at hs
  |_ :: _,[],o,fuel,pre,hs,h,hl,hz=>by simp [ycs] at hs
  |s :: l,f :: fs,o,fuel,pre,hs,h,hl,hz=>by
    unfold ycs at hs;unfold Sh.szL at hl ⊢;simp only [d8] at hs;obtain ⟨x,hx⟩:=h f (by simp);rw [beqN hs.1,beqN hs.2.1] at hx;obtain ⟨tr,k1,k2⟩:=zvx hs.2.2.1 hx (hz.sub fun v hv=>lm (List.mem_of_mem_take hv));obtain ⟨ts,k3,k4⟩:=z98 (o:=o+s.sz) (pre:=pre) (fuel:=fuel) hs.2.2.2 (fun g hg=>h g (by simp [hg])) (by omega) hz;refine ⟨tr.cells++ts,⟨tr,ts,rfl,k1,k3⟩,?_⟩;have:=k2.append k4;rw [show List.take s.sz (List.drop o pre)++List.take (Sh.szL l) (List.drop (o+s.sz) pre)=List.take (s.sz+Sh.szL l) (List.drop o pre) by rw [List.take_add,ks]] at this;exact this
end
theorem ztp {r:Reach} {base:Nat} {u:fc} {a:Addr} {n c:Nat} (h:Cell.okWide P W r base u (.slice (some a) n c)):0<W.heap.size:=by
  have key:Cell.ok P W r base u (.slice (some a) n c)->0<W.heap.size:=fun h=>by
    unfold Cell.ok at h;split at h<;>first|contradiction | (exact h.elim)|skip
    rename_i hq;cases hq;obtain ⟨-,-,-,-,row,cells,hs,-⟩:=h;unfold World.shape? at hs;by_cases hb:0<W.heap.size
    . exact hb
    . rw [Array.getElem?_eq_none (by omega)] at hs;simp at hs
  unfold Cell.okWide at h;split at h<;>first|exact key h|contradiction
theorem ydn {r:Reach} {base:Nat} {u:fc} {cs:Array Value} (h:Cell.okWide P W r base u (.agg cs)):False:=by
  unfold Cell.okWide at h;split at h<;>first|contradiction | (unfold Cell.ok at h;split at h<;>first|contradiction|exact h)
theorem zq2 {r:Reach} {base:Nat} {s:Sh} {t:fc} {v:Value} {d:DataW H} {ps:List MemPlace} (hs:shOk P s t=true) (hv:qx P W r base t v) (h:DataW.Trod enc P W 0 (fun _=>true) true t v d ps):∃ tr,conf s tr/\Rt W tr v:=by
  obtain ⟨fuel,h⟩:=h
  have one:(∀ fs,P.underlying t≠some (.struct fs))->(∀ n e,P.underlying t≠some (.array n e))->(∀ l,s≠.struct l)->(∀ k n,s≠.arr k n)->∃ tr,conf s tr/\Rt W tr v:=fun h1 h2 h3 h4=>by
    have hc:Cell.okWide P W r base t v:=by
      unfold qx at hv;split at hv
      . rename_i fs hu;exact absurd hu (h1 fs)
      . rename_i n e hu;exact absurd hu (h2 n e)
      . exact hv
    have hcs:v.cells.toList=[v]:=by
      cases v<;>first|rfl|exact (ydn hc).elim
    rw [hcs] at h
    obtain ⟨tr,k1,k2⟩:=zvx hs h (fun x hx ⟨a,n,c,he⟩=>by
      simp only [jv] at hx;subst hx;subst he
      exact ztp hc)
    have ht:tr.cells=[tr]:=by
      cases s with
      |struct l=>exact absurd rfl (h3 l)
      |int k=>obtain ⟨n,rfl,_⟩:=k1;rfl
      |bool=>obtain ⟨n,rfl⟩:=k1;rfl
      |str=>obtain ⟨n,rfl,_⟩:=k1;rfl
      |slice e=>obtain ⟨l,rfl,_⟩:=k1;rfl
      |arr k n=>exact absurd rfl (h4 k n)
    rw [ht] at k2
    cases k2 with
    |cons a _=>exact ⟨tr,k1,a⟩
  cases s with
  |struct l =>
    have hu:∃ fs,P.underlying t=some (.struct fs):=by
      unfold shOk at hs;split at hs
      . rename_i fs hu;exact ⟨fs,hu⟩
      . simp at hs
    obtain ⟨fs,hu⟩:=hu;unfold qx at hv;rw [hu] at hv;obtain ⟨cs,rfl,-,ts,-,-,hall⟩:=hv
    obtain ⟨tr,k1,k2⟩:=zvx hs h (fun x hx ⟨a,n,c,he⟩=>by
      subst he;obtain ⟨i,hi,hq⟩:=lq hx;have hi':i<cs.size:=by simpa [Value.cells] using hi
      obtain ⟨u,-,hu2⟩:=hall i _ (jq hi');have:cs[i]=.slice (some a) n c:=by simpa [Value.cells] using hq
      rw [this] at hu2
      exact ztp hu2)
    obtain ⟨ts,rfl,_⟩:=id k1;exact ⟨_,k1,.agg (by simpa [gt,Value.cells] using k2)⟩
  |int k =>
    have:∃ k',P.underlying t=some (.int k'):=by
      unfold shOk at hs;split at hs
      . rename_i k' hu;exact ⟨k',hu⟩
      . simp at hs
    obtain ⟨k',hu⟩:=this;exact one (fun fs hh=>by rw [hu] at hh;simp at hh) (fun n e hh=>by rw [hu] at hh;simp at hh) (fun l hh=>by simp at hh) (fun k n hh=>by simp at hh)
  |bool =>
    have:P.underlying t=some .bool:=by
      unfold shOk at hs;split at hs
      . rename_i hu;exact hu
      . simp at hs
    exact one (fun fs hh=>by rw [this] at hh;simp at hh) (fun n e hh=>by rw [this] at hh;simp at hh) (fun l hh=>by simp at hh) (fun k n hh=>by simp at hh)
  |str =>
    have:P.underlying t=some .string:=by
      unfold shOk at hs;split at hs
      . rename_i hu;exact hu
      . simp at hs
    exact one (fun fs hh=>by rw [this] at hh;simp at hh) (fun n e hh=>by rw [this] at hh;simp at hh) (fun l hh=>by simp at hh) (fun k n hh=>by simp at hh)
  |slice e =>
    have:∃ e,P.underlying t=some (.slice e):=by
      unfold shOk at hs;split at hs
      . rename_i e hu;exact ⟨e,hu⟩
      . simp at hs
    obtain ⟨e',hu⟩:=this;exact one (fun fs hh=>by rw [hu] at hh;simp at hh) (fun n e hh=>by rw [hu] at hh;simp at hh) (fun l hh=>by simp at hh) (fun k n hh=>by simp at hh)
  |arr k n =>
    have hu:∃ m e,P.underlying t=some (.array m e):=by
      unfold shOk at hs;split at hs
      . rename_i m e hu;exact ⟨m,e,hu⟩
      . simp at hs
    obtain ⟨m,e,hu⟩:=hu;unfold qx at hv;rw [hu] at hv;obtain ⟨cs,rfl,-⟩:=hv;have hnoslice:∀ tr:T,conf (.arr k n) tr->True:=fun _ _=>trivial;have hs0:=hs;unfold shOk at hs0;rw [hu] at hs0;simp only [d8] at hs0;obtain ⟨q1,q2,q3,q4⟩:=hs0;split at q4
    . rename_i k' he;obtain ⟨xs,fu,-,-,hlen,hxlen,hel⟩:=DataW.trod_array hu h
      have hz:zxn W (Value.agg cs).cells.toList:=fun x hx ⟨a,n2,c,he2⟩=>by
        subst he2;obtain ⟨i,hi,hq⟩:=lq hx;have hl:(Value.agg cs).cells.toList.length=n:=by rw [hlen];exact beqN q2
        have hmn:=beqN q1;have h0:=hel i (by omega);rw [beqN q3,Nat.mul_one] at h0
        cases hxi:xs[i]? with
        |none =>
          rw [hxi] at h0;have:=List.getElem?_eq_none_iff.1 hxi;omega
        |some z =>
          rw [hxi] at h0;obtain ⟨w,e1,-,-⟩:=DataW.trod_int he h0;have e2:((Value.agg cs).cells.toList.drop i)[0]?=(((Value.agg cs).cells.toList.drop i).take 1)[0]?:=by rw [List.getElem?_take_of_lt (by omega)]
          rw [e1,js,ii,ef hi,hq] at e2;simp at e2
      obtain ⟨tr,k1,k2⟩:=zvx hs h hz;obtain ⟨a,rfl,_⟩:=id k1;exact ⟨_,k1,.agg (by simpa [gt,Value.cells] using k2)⟩
    . simp at q4
end
def nlI:Option (List Int)->T
  |none=>.nils
  |some l=>.lst 1 (l.map (d7 .i64))
theorem za7 {n:Nat} (o:Option (List Int)):(nlI o).ids n=true:=by
  cases o with
  |none=>rfl
  |some l=>exact zo0 l
theorem zes {P:fe} {Γ:Env} {S:TS} {t:fc} {op:BinOp} {x y:ep} {m n:Bool}:tBin P Γ S t op x y (.bool m) (.bool n)=(Γ.ti.at t).bind fun i=>match i.desc,op with|.bool,.eql=>some (.bool (m == n))|.bool,.neq=>some (.bool (!(m == n)))|_,_=>none:=by
  unfold tBin;cases Γ.ti.at t<;>rfl
theorem zl0:(true == true)=true:=ej rfl rfl
theorem zl1:(true == false)=false:=ej rfl rfl
theorem zl2:(false == true)=false:=ej rfl rfl
theorem zl3:(false == false)=true:=ej rfl rfl
def atR (rl:List Nat) (i:Nat):Nat:=rl.getD i 0
def memB:List Nat->Nat->Bool
  |[],_=>false
  |y :: l,x=>er y x || memB l x
def zzd:List Nat->Bool
  |[]=>true
  |x :: l=>!(memB l x) && zzd l
def rlOk (n0 n1 m m':Nat) (rl:List Nat):Bool :=
  gj n0 n1 && (er rl.length n1 && (gj m m' && (rl.all (fun x=>fw x m') && ((rl.take n0).all (fun x=>fw x m) && ((rl.drop n0).all (fun x=>gj m x) && zzd rl)))))
def PreL (ρ:Nat->Nat) (n:Nat) (bs:List Box):List Nat->List Box->Prop
  |r :: rl,b :: bl=>(bs.getD r .gone=zfa ρ b/\zh6 n b=true)/\PreL ρ n bs rl bl
  |_,_=>True
def zx5 (rl:List Nat):Nat->List Box->List Box->Prop
  |i,a :: l,b :: m=>(memB rl i=true\/b=a)/\zx5 rl (i+1) l m
  |i,[],b :: m=>memB rl i=true/\zx5 rl (i+1) [] m
  |_,_,[]=>True
theorem PreL.get {ρ:Nat->Nat} {n:Nat} {bs:List Box}:∀ {rl:List Nat} {bl:List Box},PreL ρ n bs rl bl->∀ i,i<rl.length->i<bl.length->bs.getD (rl.getD i 0) .gone=zfa ρ (bl.getD i .gone)/\zh6 n (bl.getD i .gone)=true
  |r :: rl,b :: bl,h,0,_,_=>h.1
  |r :: rl,b :: bl,h,i+1,h1,h2=>PreL.get (rl:=rl) (bl:=bl) h.2 i (by simpa using h1) (by simpa using h2)
theorem zx5.get {rl:List Nat}:∀ {i:Nat} {l m:List Box},zx5 rl i l m->l.length<=m.length->∀ b,memB rl (i+b)=false->m.getD b .gone=l.getD b .gone
  |i,a :: l,b :: m,h,hl,0,hm=>by
    rcases h.1 with q|q
    . rw [ii] at hm;rw [hm] at q;cases q
    . exact q
  |i,a :: l,b :: m,h,hl,k+1,hm=>zx5.get (l:=l) (m:=m) h.2 (by simpa using hl) k (by rw [show i+1+k=i+(k+1) by omega];exact hm)
  |i,[],b :: m,h,hl,0,hm=>by have q:=h.1;rw [ii] at hm;rw [hm] at q;cases q
  |i,[],b :: m,h,hl,k+1,hm=>zx5.get (l:=[]) (m:=m) h.2 (gb _) k (by rw [show i+1+k=i+(k+1) by omega];exact hm)
  |i,[],[],h,hl,k,hm=>rfl
theorem zuj {p:Nat->Bool}:∀ {l:List Nat},l.all p=true->∀ i,i<l.length->p (l.getD i 0)=true
  |x :: l,h,0,_=>by simp only [ig,d8] at h;exact h.1
  |x :: l,h,i+1,hi=>by
    simp only [ig,d8] at h;exact zuj (l:=l) h.2 i (by simpa using hi)
theorem z12:∀ {l:List Nat} {i:Nat},i<l.length->memB l (l.getD i 0)=true
  |x :: l,0,_=>by show (er x x || memB l x)=true;rw [Nat.beq_refl];rfl
  |x :: l,i+1,h=>by
    show (er x (l.getD i 0) || memB l (l.getD i 0))=true;rw [z12 (l:=l) (by simpa using h),Bool.or_true]
theorem zzc:∀ {l:List Nat},zzd l=true->∀ i j,i<l.length->j<l.length->l.getD i 0=l.getD j 0->i=j
  |x :: l,h,0,0,_,_,_=>rfl
  |x :: l,h,0,j+1,_,hj,e=>by
    simp only [zzd,d8,ny] at h;have:=z12 (l:=l) (i:=j) (by simpa using hj);rw [show l.getD j 0=x from e.symm] at this;rw [h.1] at this;cases this
  |x :: l,h,i+1,0,hi,_,e=>by
    simp only [zzd,d8,ny] at h;have:=z12 (l:=l) (i:=i) (by simpa using hi);rw [show l.getD i 0=x from e] at this;rw [h.1] at this;cases this
  |x :: l,h,i+1,j+1,hi,hj,e=>by
    simp only [zzd,d8] at h;rw [zzc (l:=l) h.2 i j (by simpa using hi) (by simpa using hj) e]
theorem ye1 {bs:List Box} {b:Nat} (h:bs.length<=b):(stL bs).box b=.gone:=by
  show bs.getD b .gone=.gone;rw [eh,List.getElem?_eq_none h];rfl
theorem yqm {rl:List Nat} {bs0 bs1 bs bs':List Box} (h1:rlOk bs0.length bs1.length bs.length bs'.length rl=true) (h4:PreL (atR rl) bs0.length bs rl bs0) (h5:PreL (atR rl) bs1.length bs' rl bs1) (h6:zx5 rl 0 bs bs'):Fits (atR rl) (stL bs0) (stL bs1) (stL bs) (stL bs'):=by
  unfold rlOk at h1;simp only [d8] at h1;obtain ⟨a1,a2,a3,a4,a5,a6,a7⟩:=h1;have a1:=zbk.1 a1;have a2:=eg a2;have a3:=zbk.1 a3;refine ⟨a1,fun b hb=>ye1 hb,fun i hi=>?_,fun i hi hj=>?_,fun i hi=>?_,a3,fun i j hi hj e=>?_,fun i hi=>?_,fun i hi=>?_,fun b hb=>?_⟩
  . have hi:i<bs0.length:=hi;have:=zuj a5 i (by rw [gi];omega);rw [eh,mi,zAc hi,<- eh] at this;exact zaf.1 this
  . have hi:bs0.length<=i:=hi;have hj:i<bs1.length:=hj;have:=zuj a6 (i - bs0.length) (by rw [ir];omega);rw [eh,js,show bs0.length+(i - bs0.length)=i by omega,<- eh] at this;exact zbk.1 this
  . have hi:i<bs1.length:=hi;exact zaf.1 (zuj a4 i (by omega))
  . exact zzc a7 i j (by rw [a2];exact hi) (by rw [a2];exact hj) e
  . have hi:i<bs0.length:=hi;exact h4.get i (by omega) hi
  . have hi:i<bs1.length:=hi;exact h5.get i (by omega) hi
  . refine h6.get a3 b ?_;rw [f6]
    cases hm:memB rl b with
    |false=>rfl
    |true =>
      exfalso
      have key:∀ {l:List Nat},memB l b=true->∃ i,i<l.length/\l.getD i 0=b:=by
        intro l
        induction l with
        |nil=>intro h;cases h
        |cons x l ih =>
          intro h;simp only [memB,kw] at h;rcases h with h|h
          . exact ⟨0,by simp,eg h⟩
          . obtain ⟨i,h1,h2⟩:=ih h;exact ⟨i+1,by simpa using h1,h2⟩
      obtain ⟨i,q1,q2⟩:=key hm;exact hb i (by show i<bs1.length;omega) q2
theorem Call.at {P:fe} {Γ:Env} {GL:List (Nat×List Value)} {f:FuncId} {args args':List T} {v v':T} {bs0 bs1 bs bs':List Box} (rl:List Nat) (k:Call P Γ GL f args (stL bs0) v (stL bs1)) (h1:rlOk bs0.length bs1.length bs.length bs'.length rl=true) (h2:jb bs0.length args=true) (h3:v.ids bs1.length=true) (h4:PreL (atR rl) bs0.length bs rl bs0) (h5:PreL (atR rl) bs1.length bs' rl bs1) (h6:zx5 rl 0 bs bs') (ea:T.renL (atR rl) args=args') (ev:v.ren (atR rl)=v'):Call P Γ GL f args' (stL bs) v' (stL bs'):=by
  subst ea ev;exact Call.frame k h2 h3 (yqm h1 h4 h5 h6)
theorem zjl {α:Type} [Inhabited α] (f:α->T) (e:Nat) (he:∀ x,(f x).cells.length=e):∀ {l:List α} {i:Nat},i<l.length->vecC f l=vecC f (l.take i)++((f (l.getD i default)).cells++vecC f (l.drop (i+1)))/\(vecC f (l.take i)).length=i*e
  |x :: l,0,_=>⟨by show vecC f (x :: l)=[]++((f x).cells++vecC f l);unfold vecC;simp,by simp [vecC]⟩
  |x :: l,i+1,h=>by
    obtain ⟨h1,h2⟩:=zjl f e he (l:=l) (i:=i) (by simpa using h);have c:∀ m:List α,vecC f (x :: m)=(f x).cells++vecC f m:=fun m=>by unfold vecC;simp
    constructor
    . show vecC f (x :: l)=vecC f (x :: l.take i)++((f (l.getD i default)).cells++vecC f (l.drop (i+1)));rw [c,c,ey,<- h1]
    . show (vecC f (x :: l.take i)).length=(i+1)*e;rw [c,eu,he,h2,jc];omega
theorem ykd {α:Type} [Inhabited α] (f:α->T) (e:Nat) {l:List α} {i:Nat} (he:∀ x,(f x).cells.length=e) (h:i<l.length):((vecC f l).drop (i*e)).take e=(f (l.getD i default)).cells:=by
  obtain ⟨h1,h2⟩:=zjl f e he h;have hc:=he (l.getD i default);rw [h1,List.drop_append_of_le_length (by omega),gu (by omega),fb,List.take_append_of_le_length (by omega),gc (by omega)]
theorem z69 {a b b2 c:List T} {n:Nat} (ha:a.length=n) (hb:b2.length=b.length):spl (a++(b++c)) n b2=a++(b2++c):=by
  subst ha;unfold spl;rw [List.take_left,mh,gu (by omega),fb,show a.length+b2.length - a.length=b.length by omega,List.drop_left,ey]
theorem z86 {α:Type} [Inhabited α] (f:α->T) (e:Nat) {l:List α} {i:Nat} (v:α) (he:∀ x,(f x).cells.length=e) (h:i<l.length):spl (vecC f l) (i*e) (f v).cells=vecC f (l.set i v):=by
  obtain ⟨h1,h2⟩:=zjl f e he h;obtain ⟨h3,h4⟩:=zjl f e he (l:=l.set i v) (i:=i) (by rw [lr];exact h);have hc:=he (l.getD i default);have hv:=he v;rw [h3,List.take_set_of_le (ei _),List.drop_set_of_lt (by omega)];rw [show (l.set i v).getD i default=v by rw [eh,List.getElem?_set_self h];rfl];rw [h1];exact z69 h2 (by omega)
theorem yrz {a b c:List T} {n j:Nat} {t:T} (ha:a.length=n) (hj:j<b.length):spl (a++(b++c)) (n+j) [t]=a++(b.set j t++c):=by
  rw [ye4 (by rw [eu,eu];omega),List.set_append_right _ _ (by omega),show n+j - a.length=j by omega,List.set_append_left _ _ hj]
theorem yeg {α:Type} [Inhabited α] (f:α->T) (e j:Nat) {l:List α} {i:Nat} {t:T} (v:α) (he:∀ x,(f x).cells.length=e) (hj:j<e) (h:i<l.length) (hv:(f (l.getD i default)).cells.set j t=(f v).cells):spl (vecC f l) (i*e+j) [t]=vecC f (l.set i v):=by
  rw [<- z86 f e v he h];obtain ⟨h1,h2⟩:=zjl f e he h;have hc:=he (l.getD i default);have hv2:=he v;rw [h1,yrz h2 (by omega),hv];exact (z69 h2 (by omega)).symm
theorem yck {α:Type} [Inhabited α] (f:α->T) (e:Nat) {l:List α} {i:Nat} {t:T} (v:α) (he:∀ x,(f x).cells.length=e) (hj:0<e) (h:i<l.length) (hv:(f (l.getD i default)).cells.set 0 t=(f v).cells):spl (vecC f l) (i*e) [t]=vecC f (l.set i v):=yeg f e 0 v he hj h hv
theorem yaj {α:Type} {S:TS} {b n e:Nat} {z:Bool} {L:List α} {f:α->T} (h1:∀ x,(f x).cells.length=e) (h0:0<e) (hS:S.box b=.cells z (n*e) (vecC f L)) (hl:L.length=n):yrh S (.arr b e 0 n n (n*e)) (.lst e (L.map f)):=by
  refine .inr ⟨b,e,0,n,n,n*e,z,_,_,rfl,rfl,hS,h0,by omega,?_,fun t ht=>?_,by rw [ek];exact hl,ei _⟩
  . rw [fl];exact zim h1 hl
  . obtain ⟨x,_,rfl⟩:=ip.1 ht;exact h1 x
noncomputable def lsOf (o:Oper):Option (Nat×Nat):=match o.op with
  |.load _ (.tmp a)=>some (0,a)
  |.store _ (.tmp a) _=>some (1,a)
  |.alloc _=>(match o.dst with|some d=>some (2,d)|none=>none)
  |.box _ _=>(match o.dst with|some d=>some (2,d)|none=>none)
  |.makeSlice _ _ _=>(match o.dst with|some d=>some (2,d)|none=>none)
  |.buildSlice _ _ _=>(match o.dst with|some d=>some (2,d)|none=>none)
  |_=>none
noncomputable def zji (a:Nat) (l:List Oper):Bool:=l.all fun o=>match o.dst with|some d=>!(er d a)|none=>true
noncomputable def zlk (k a:Nat) (o:Oper) (l:List Oper):Bool:=zji a l && (er k 2 || zji a [o])
noncomputable def z70:List (Nat×Option Nat)->Nat->Option (Option Nat)
  |[],_=>none
  |(a,b) :: l,x=>bif er a x then some b else z70 l x
noncomputable def zwg (bx:List (Nat×Option Nat)) (o:Oper) (l:List Oper):Option (Nat×Option Nat):=match lsOf o with
  |some (w,a)=>bif zlk w a o l then (match z70 bx a with|some b=>some (w,b)|none=>none) else none
  |none=>none
noncomputable def tagS (bx:List (Nat×Option Nat)):Nat->List Oper->List (Bool×Oper×Option (Nat×Option Nat))
  |_,[]=>[]
  |0,o :: l=>(true,o,zwg bx o l) :: tagS bx 0 l
  |k+1,o :: l=>(false,o,zwg bx o l) :: tagS bx k l
noncomputable def ygn:Option Nat->Option Nat->Bool
  |some a,some b=>!(er a b)
  |none,none=>false
  |_,_=>true
noncomputable def ydi (p q:Option (Nat×Option Nat)):Bool:=match p,q with
  |some (w1,b1),some (w2,b2)=>gj w2 1 && ((er w1 0 && er w2 0) || ygn b1 b2)
  |_,_=>false
noncomputable def znw (Γ:Env) (o:Oper):Bool:=match o.op with
  |.call ⟨.builtin .len,_,ts⟩=>(match ts.toList with | [t]=>(match Γ.ti.at t with|some i=>(match i.desc with|.slice _=>true|.string=>true|_=>false)|none=>false)|_=>false)
  |.call ⟨.builtin .min,_,_⟩=>true
  |.call ⟨.builtin .max,_,_⟩=>true
  |_=>false
noncomputable def yak (Γ:Env) (x y:Bool×Oper×Option (Nat×Option Nat)):Bool:=y.1 && !(zi3 x.2.1.op || (zjh y.2.1.op || (znw Γ x.2.1 || (znw Γ y.2.1 || ydi x.2.2 y.2.2))))
noncomputable def zw7 (Γ:Env) (k:Nat) (bx:List (Nat×Option Nat)) (ops:List Oper):Bool:=zjc ops.length ops && zgq (yak Γ) [] (tagS bx k ops) (zd1 ops [])
def adr1 (S:TS):T->Option Nat->Prop
  |.ptr b _ N,some c=>b=c/\S.has b N=true
  |.cp _,none=>True
  |.arr b _ _ _ _ N,some c=>b=c/\S.has b N=true
  |.tup [],some _=>True
  |_,_=>False
def z0q (bx:List (Nat×Option Nat)) (h:Nat->T) (S:TS):Prop:=match bx with
  |[]=>True
  |(a,b) :: l=>adr1 S (h a) b/\z0q l h S
theorem zoh {bx:List (Nat×Option Nat)}:∀ {k:Nat} {ops:List Oper} {i:Nat} {o:Oper},ops[i]?=some o->(tagS bx k ops)[i]?=some (decide (k<=i),o,zwg bx o (ops.drop (i+1)))
  |_,[],i,o,h=>by simp at h
  |0,x :: l,i,o,h=>by
    cases i with
    |zero=>simp only [fx,dy] at h;subst h;rfl
    |succ i =>
      have:=zoh (bx:=bx) (k:=0) (ops:=l) (i:=i) (by simpa using h)
      simpa [tagS] using this
  |k+1,x :: l,i,o,h=>by
    cases i with
    |zero=>simp only [fx,dy] at h;subst h;rfl
    |succ i =>
      have:=zoh (bx:=bx) (k:=k) (ops:=l) (i:=i) (by simpa using h);simpa [tagS] using this
theorem z5v {Γ:Env} {k:Nat} {bx:List (Nat×Option Nat)} {ops:List Oper} (hd:zw7 Γ k bx ops=true) {i j:Nat} {x y:Oper} (hij:i<j) (hkj:k<=j) (hx:ops[i]?=some x) (hy:ops[j]?=some y):gr (nth 0 (zd1 ops []) j) i=true\/zi3 x.op=true\/zjh y.op=true\/znw Γ x=true\/znw Γ y=true\/ydi (zwg bx x (ops.drop (i+1))) (zwg bx y (ops.drop (j+1)))=true:=by
  unfold zw7 at hd;simp only [d8] at hd;rcases zgc hd.2 i j _ _ hij (gb _) (by simpa using zoh hx) (by simpa using zoh hy) with q|q
  . exact .inl q
  . unfold yak at q;rw [zAa hkj] at q;simp only [ju,oy,kw] at q;exact .inr q
theorem ylp {bx:List (Nat×Option Nat)} {x y:Oper} {l m:List Oper} (h:ydi (zwg bx x l) (zwg bx y m)=true):∃ w1 a1 b1 w2 a2 b2,lsOf x=some (w1,a1)/\zlk w1 a1 x l=true/\z70 bx a1=some b1/\lsOf y=some (w2,a2)/\zlk w2 a2 y m=true/\z70 bx a2=some b2/\w2<=1/\((w1=0/\w2=0)\/ygn b1 b2=true):=by
  have key:∀ {o:Oper} {l:List Oper} {w b},zwg bx o l=some (w,b)->∃ a,lsOf o=some (w,a)/\zlk w a o l=true/\z70 bx a=some b:=by
    intro o l w b h;unfold zwg at h;split at h
    . rename_i w' a' h1
      cases h2:zlk w' a' o l with
      |false=>rw [h2] at h;simp at h
      |true =>
        rw [h2,cond_true] at h;split at h
        . rename_i b' h3;cases h;exact ⟨a',h1,h2,h3⟩
        . simp at h
    . simp at h
  cases h1:zwg bx x l with
  |none=>rw [h1] at h;simp [ydi] at h
  |some p =>
    cases h2:zwg bx y m with
    |none=>rw [h1,h2] at h;simp [ydi] at h
    |some q =>
      obtain ⟨w1,b1⟩:=p;obtain ⟨w2,b2⟩:=q;rw [h1,h2] at h;obtain ⟨a1,c1,c2,c3⟩:=key h1;obtain ⟨a2,d1,d2,d3⟩:=key h2;simp only [ydi,kw,d8] at h;refine ⟨w1,a1,b1,w2,a2,b2,c1,c2,c3,d1,d2,d3,zbk.1 h.1,?_⟩;rcases h.2 with q|q
      . exact .inl ⟨eg q.1,eg q.2⟩
      . exact .inr q
theorem z22 {h:Nat->T} {S:TS}:∀ {bx:List (Nat×Option Nat)} {a:Nat} {b:Option Nat},z0q bx h S->z70 bx a=some b->adr1 S (h a) b
  |(a',b') :: l,a,b,k,e=>by
    unfold z70 at e
    cases hb:er a' a with
    |true =>
      rw [hb,cond_true] at e;cases e;rw [<- eg hb];exact k.1
    |false =>
      rw [hb,cond_false] at e;exact z22 k.2 e
section
variable {GL:List (Nat×List Value)} {A A' A0:Nat->Prop} {β β':Bx} {S S':TS} {s s0 s' s2:CS} {P:fe} {Γ:Env} {N:Nat} {h h':Nat->T} {call:zc8}
def IsAd (v:Value) (ad:Addr):Prop:=v=.pointer (some ad)\/∃ n c,v=.slice (some ad) n c
def ydu (fr:Fr) (w:Nat) (a:Nat) (x:Lg):Prop:=(x.rd=[]/\x.wr=[]/\x.lo=x.hi)\/∃ ad,IsAd (fr.get a) ad/\(∀ y,y∈x.rd->y=ad.block)/\(∀ y,y∈x.wr->y=ad.block)/\(x.lo=x.hi\/(x.hi=x.lo+1/\x.lo=ad.block))/\(w=0->x.wr=[])/\(w<=1->x.lo=x.hi)
theorem z2a {fr:Fr} {d:Option Tmp} {v:Value} {a:Nat} (h5:fr.nt<=512) (hd:(match d with|some d=>!(er d a)|none=>true)=true):(putC fr d v).get a=fr.get a:=by
  cases d with
  |none=>rfl
  |some d =>
    refine Fr.get_put_other v h5 fun e=>?_;subst e;simp at hd
theorem zru {ops:List Oper} {a:Nat}:∀ {l:List Oper} {fr fr':Fr} {s s':CS} {L:List Lg},drawC P Γ call ops l fr s=some (L,fr',s')->fr.nt<=512->zji a l=true->fr'.get a=fr.get a
  |[],fr,fr',s,s',L,hc,_,_=>by
    simp only [drawC,dy,ec] at hc;rw [hc.2.1]
  |o :: l,fr,fr',s,s',L,hc,h5,hn=>by
    simp only [drawC] at hc;unfold zji at hn;rw [ig,d8] at hn;split at hc
    . rename_i fr1 t h1;split at hc
      . rename_i logs fr2 s2 h2;cases hc
        have e:∃ v,fr1=putC fr o.dst v:=by
          unfold zcw at h1
          cases hw:zde ops fr o with
          |false =>
            rw [hw] at h1;simp only [cond_false,dy,ec] at h1;exact ⟨_,h1.1.symm⟩
          |true =>
            rw [hw,cond_true] at h1;split at h1
            . cases h1;exact ⟨_,rfl⟩
            . simp at h1
        obtain ⟨v,rfl⟩:=e;rw [zru h2 (by rw [zvr];exact h5) hn.2];exact z2a h5 hn.1
      . simp at hc
    . simp at hc
theorem yhp {lim n y:Nat} (h:y∈ins lim [] n):y=n:=by
  unfold ins at h
  cases hb:fw n lim with
  |false=>rw [hb] at h;simp at h
  |true =>
    rw [hb] at h;have:has ([]:List Nat) n=false:=rfl;rw [cond_true,this,cond_false] at h;simpa using h
theorem ygz {s s1:CS} {tag:Nat} {cs:List Value} {a:Addr} (h:s.newRow tag cs=some (a,s1)):s1.rd=s.rd/\s1.wr=s.wr/\s1.n=s.n+1/\a.block=s.n:=by
  unfold CS.newRow at h;generalize (zis s.obj s.n:Bool)=b at h
  cases b with
  |true=>cases h;exact ⟨rfl,rfl,rfl,rfl⟩
  |false=>cases h
theorem yf6 {s s1:CS} {tag:Nat} {cs:List Value} {v:Value} (h:ptrC (s.inner.newRow tag cs)=some (v,s1)):s1.rd=[]/\s1.wr=[]/\s1.n=s.n+1/\∃ ad,IsAd v ad/\ad.block=s.n:=by
  unfold ptrC at h;split at h
  . rename_i x hx;cases h;obtain ⟨a,t⟩:=x;obtain ⟨h1,h2,h3,h4⟩:=ygz hx;exact ⟨h1,h2,h3,a,.inl rfl,h4⟩
  . simp at h
theorem z3j {s s1:CS} {tag l c:Nat} {cs:List Value} {v:Value} (h:zja l c (s.inner.newRow tag cs)=some (v,s1)):s1.rd=[]/\s1.wr=[]/\s1.n=s.n+1/\∃ ad,IsAd v ad/\ad.block=s.n:=by
  unfold zja at h;split at h
  . rename_i x hx;cases h;obtain ⟨a,t⟩:=x;obtain ⟨h1,h2,h3,h4⟩:=ygz hx;exact ⟨h1,h2,h3,a,.inr ⟨_,_,rfl⟩,h4⟩
  . simp at h
theorem ysl {o:Oper} {fr:Fr} {s s1:CS} {v:Value} {w:Nat} {a:Nat} (ho:lsOf o=some (w,a)) (hc:cop P Γ call (zgp fr) o s.inner=some (v,s1)):(w<=1/\s1.n=s.n/\∃ ad,fr.get a=.pointer (some ad)/\(w=0->s1.wr=[])/\(∀ y,y∈s1.rd->y=ad.block)/\(∀ y,y∈s1.wr->y=ad.block))\/(w=2/\o.dst=some a/\s1.rd=[]/\s1.wr=[]/\s1.n=s.n+1/\∃ ad,IsAd v ad/\ad.block=s.n):=by
  unfold lsOf at ho;split at ho
  . rename_i t a' hop;cases ho;unfold cop at hc;rw [hop] at hc;simp only [zgp] at hc;unfold zpj at hc;split at hc
    . rename_i ad had;split at hc
      . rename_i i hi;unfold CS.loadVar at hc;split at hc
        . rename_i cs s3 hr;split at hc
          . cases hc;unfold CS.readRow at hr;split at hr
            . cases hr;exact .inl ⟨by omega,rfl,ad,had,fun _=>rfl,fun y hy=>yhp hy,fun y hy=>by cases hy⟩
            . simp at hr
          . simp at hc
        . simp at hc
      . simp at hc
    . simp at hc
  . rename_i t a' vv hop;cases ho;unfold cop at hc;rw [hop] at hc;change zk4 Γ s.inner t (zgp fr vv).cells.toList (fr.get a)=_ at hc;generalize (zgp fr vv).cells.toList=vs at hc;unfold zk4 at hc;split at hc
    . rename_i ad had;split at hc
      . rename_i i hi
        cases hb:er vs.length i.size with
        |false=>rw [hb] at hc;simp at hc
        |true =>
          rw [hb,cond_true] at hc;unfold zw8 at hc;split at hc
          . rename_i s2 hw;cases hc;unfold CS.write at hw;split at hw
            . generalize ((gj _ _ && vs.all oneC):Bool)=bb at hw
              cases bb with
              |true =>
                cases hw;exact .inl ⟨by omega,rfl,ad,had,fun e=>(by cases e),fun y hy=>(by cases hy),fun y hy=>yhp hy⟩
              |false=>cases hw
            . simp at hw
          . simp at hc
      . simp at hc
    . simp at hc
  . rename_i e hop;split at ho
    . rename_i d hd;cases ho;refine .inr ⟨rfl,hd,?_⟩;unfold cop at hc;rw [hop] at hc;simp only at hc;unfold zk6 at hc;split at hc
      . exact yf6 hc
      . simp at hc
    . simp at ho
  . rename_i e x hop;split at ho
    . rename_i d hd;cases ho;refine .inr ⟨rfl,hd,?_⟩;unfold cop at hc;rw [hop] at hc;exact yf6 hc
    . simp at ho
  . rename_i e l c hop;split at ho
    . rename_i d hd;cases ho;refine .inr ⟨rfl,hd,?_⟩;unfold cop at hc;rw [hop] at hc;simp only at hc;unfold zfm at hc;split at hc
      . rename_i j l' c' _ _ _
        cases hb:(gj l' c' && gj (c'*(j.bytes+1)) 1000000000 && fw 0 j.size) with
        |false=>rw [hb] at hc;simp at hc
        |true =>
          rw [hb,cond_true] at hc;exact z3j hc
      . simp at hc
    . simp at ho
  . rename_i e n parts hop;split at ho
    . rename_i d hd;cases ho;refine .inr ⟨rfl,hd,?_⟩;unfold cop at hc;rw [hop] at hc;simp only at hc;unfold zct at hc;split at hc
      . rename_i j _
        cases hb:(gj (n*j.size) 16777216 && fw 0 j.size) with
        |false=>rw [hb] at hc;simp at hc
        |true =>
          rw [hb,cond_true] at hc;split at hc
          . exact z3j hc
          . simp at hc
      . simp at hc
    . simp at ho
  . simp at ho
theorem zw6 {ops:List Oper}:∀ {l:List Oper} {fr fr':Fr} {s s':CS} {L:List Lg},drawC P Γ call ops l fr s=some (L,fr',s')->fr.nt<=512->ze3 fr.nt l=true->∀ (j:Nat) (o:Oper) (x:Lg) (w:Nat) (a:Nat),l[j]?=some o->L[j]?=some x->lsOf o=some (w,a)->zlk w a o (l.drop (j+1))=true->ydu fr' w a x
  |[],fr,fr',s,s',L,hc,_,_,j,o,x,w,a,hj,_,_,_=>by simp at hj
  |o :: l,fr,fr',s,s',L,hc,h5,hdo,j,o',x,w,a,hj,hx,ho,hn=>by
    have hc0:=hc;simp only [drawC] at hc;split at hc
    . rename_i fr1 t h1;split at hc
      . rename_i logs fr2 s2 h2;cases hc
        have hfr:∃ v,fr1=putC fr o.dst v:=by
          unfold zcw at h1
          cases hw:zde ops fr o with
          |false =>
            rw [hw] at h1;simp only [cond_false,dy,ec] at h1;exact ⟨_,h1.1.symm⟩
          |true =>
            rw [hw,cond_true] at h1;split at h1
            . cases h1;exact ⟨_,rfl⟩
            . simp at h1
        have hnt:fr1.nt=fr.nt:=by obtain ⟨v,rfl⟩:=hfr;exact zvr _ _ _
        unfold ze3 at hdo;rw [ig,d8] at hdo
        cases j with
        |zero =>
          simp only [fx,dy] at hj hx;subst hj;subst hx;unfold zlk at hn;simp only [d8,kw] at hn;obtain ⟨hn1,hn2⟩:=hn;have hg1:=zru h2 (by rw [hnt];exact h5) (show zji a l=true by simpa using hn1);unfold zcw at h1
          cases hw:zde ops fr o with
          |false =>
            rw [hw] at h1;simp only [cond_false,dy,ec] at h1;rw [<- h1.2];exact .inl ⟨rfl,rfl,rfl⟩
          |true =>
            rw [hw,cond_true] at h1;split at h1
            . rename_i v s1 hcop;cases h1;rcases ysl ho hcop with ⟨q0,q1,ad,q2,q3,q4,q5⟩|⟨q0,q1,q2,q3,q4,ad,q5,q6⟩
              . have hn3:zji a [o]=true:=by
                  rcases hn2 with q|q
                  . have:=eg q;omega
                  . exact q
                have e:(putC fr o.dst v).get a=fr.get a:=z2a h5 (by unfold zji at hn3;rw [ig,d8] at hn3;exact hn3.1);refine .inr ⟨ad,.inl (by rw [hg1,e];exact q2),q4,q5,.inl q1.symm,q3,fun _=>q1.symm⟩
              . subst q0
                have e:(putC fr o.dst v).get a=v:=by
                  rw [q1];refine ra v ?_ h5;have:=hdo.1;rw [q1] at this;exact zaf.1 this
                refine .inr ⟨ad,by rw [hg1,e];exact q5,fun y hy=>?_,fun y hy=>?_,.inr ⟨q4,q6.symm⟩,fun h=>(by cases h),fun h=>by omega⟩
                . simp only [q2] at hy;cases hy
                . simp only [q3] at hy;cases hy
            . simp at h1
        |succ j=>exact zw6 h2 (by rw [hnt];exact h5) (by rw [hnt];exact hdo.2) j o' x w a (by simpa using hj) (by simpa using hx) ho (by simpa using hn)
      . simp at hc
    . simp at hc
theorem yqj {o:Oper} {ρ:ep->Value} {s s1:CS} {v:Value} (hm:znw Γ o=true) (hc:cop P Γ call ρ o s=some (v,s1)):s1=s:=by
  unfold znw at hm;split at hm
  . rename_i args ts hop;unfold cop at hc;rw [hop] at hc;simp only at hc;unfold zf6 at hc;simp only at hc;split at hc
    . rename_i x t _ hts;rw [hts] at hm;simp only at hm;unfold zm4 at hc;split at hc
      . rename_i i hi;rw [hi] at hm;simp only at hm;split at hc
        . cases hc;rfl
        . cases hc;rfl
        . cases hc;rfl
        . cases hc;rfl
        . rename_i hd _;rw [hd] at hm;simp at hm
        . simp at hc
      . simp at hc
    . simp at hc
  . rename_i args ts hop;unfold cop at hc;rw [hop] at hc;exact znn hc
  . rename_i args ts hop;unfold cop at hc;rw [hop] at hc;exact znn hc
  . simp at hm
theorem zn3 {ops:List Oper}:∀ {l:List Oper} {fr fr':Fr} {s s':CS} {L:List Lg},drawC P Γ call ops l fr s=some (L,fr',s')->∀ (j:Nat) (o:Oper) (x:Lg),l[j]?=some o->L[j]?=some x->znw Γ o=true->x.rd=[]/\x.wr=[]/\x.lo=x.hi
  |[],fr,fr',s,s',L,hc,j,o,x,hj,_,_=>by simp at hj
  |o :: l,fr,fr',s,s',L,hc,j,o',x,hj,hx,hm=>by
    simp only [drawC] at hc;split at hc
    . rename_i fr1 t h1;split at hc
      . rename_i logs fr2 s2 h2;cases hc
        cases j with
        |zero =>
          simp only [fx,dy] at hj hx;subst hj;subst hx;unfold zcw at h1
          cases hw:zde ops fr o with
          |false =>
            rw [hw] at h1;simp only [cond_false,dy,ec] at h1;rw [<- h1.2];exact ⟨rfl,rfl,rfl⟩
          |true =>
            rw [hw,cond_true] at h1;split at h1
            . rename_i v s1 hcop;cases h1;rw [yqj hm hcop];exact ⟨rfl,rfl,rfl⟩
            . simp at h1
        |succ j=>exact zn3 h2 j o' x (by simpa using hj) (by simpa using hx) hm
      . simp at hc
    . simp at hc
def FamOf (A:Nat->Prop) (β:Bx) (f:Nat):Option Nat->Prop
  |some b=>∃ u N',β b=some (.live f u N')
  |none=>A f
theorem z21 {S:TS} {s:CS} {fr:Fr} (hF:FrOk A β (zaa s.obj) N h fr) (hT:TRel GL A β S s) {a:Nat} {b:Option Nat} (k:adr1 S (h a) b) {ad:Addr} (e:IsAd (fr.get a) ad):FamOf A β ad.block b:=by
  have hv:=hF.slot a;generalize fr.get a=v at hv e;generalize h a=t at hv k
  cases b with
  |none =>
    cases t with
    |cp l=>cases hv with|cp q1 q2 q3=>(rcases e with e|⟨n,c,e⟩<;>cases e);exact q1
    |tup l=>cases l<;>exact k.elim
    |_=>exact k.elim
  |some c =>
    cases t with
    |ptr b' off N' =>
      obtain ⟨rfl,k2⟩:=k;obtain ⟨z,l,hS⟩:=TS.has_ok k2;obtain ⟨f,u,q1,q2⟩:=zk3 hT hS hv;subst q1;rcases e with e|⟨n,c,e⟩<;>cases e;exact ⟨u,N',q2⟩
    |arr b' e' off len cap N' =>
      obtain ⟨rfl,k2⟩:=k;obtain ⟨z,l,hS⟩:=TS.has_ok k2;rcases zi8 hT hS hv with ⟨f,u,q1,q2,_⟩|⟨q1,_⟩
      . subst q1;rcases e with e|⟨n,c,e⟩<;>cases e;exact ⟨u,N',q2⟩
      . subst q1
        rcases e with e|⟨n,c,e⟩<;>cases e
    |tup l =>
      cases l with
      |nil =>
        cases hv with
        |tup q=>cases q;rcases e with e|⟨n,c,e⟩<;>cases e
      |cons x l=>exact k.elim
    |_=>exact k.elim
theorem yqc {S:TS} {s:CS} {fr:Fr} (hF:FrOk A β (zaa s.obj) N h fr) (hT:TRel GL A β S s) {a1 a2:Nat} {b1 b2:Option Nat} {w1 w2:Nat} {x y:Lg} (k1:adr1 S (h a1) b1) (k2:adr1 S (h a2) b2) (hw:w2<=1) (hne:(w1=0/\w2=0)\/ygn b1 b2=true) (z1:ydu fr w1 a1 x) (z2:ydu fr w2 a2 y):clash x y=false:=by
  obtain ⟨rx,wx,lo,hi⟩:=x;obtain ⟨ry,wy,lo',hi'⟩:=y;simp only [ydu] at z1 z2;rcases z1 with ⟨p1,p2,p3⟩|⟨ad1,p1,p2,p3,p4,p5,p6⟩
  . exact zih p1 p2 p3
  rcases z2 with ⟨q1,q2,_⟩|⟨ad2,q1,q2,q3,q4,q5,q6⟩
  . exact zhb q1 q2
  have g1:=z21 hF hT k1 p1;have g2:=z21 hF hT k2 q1;rcases hne with ⟨rfl,rfl⟩|hne
  . have e1:=p5 rfl;have e2:=q5 rfl;have e3:=p6 (by omega);subst e1;subst e2;subst e3;exact zgz (fun f hf=>by cases hf) (fun f _=>by simp) (fun f _=>by omega) (fun f hf=>by cases hf)
  . have hb:ad1.block≠ad2.block:=by
      intro hb
      cases b1 with
      |none =>
        cases b2 with
        |none=>simp [ygn] at hne
        |some b2 =>
          obtain ⟨u,M,g2⟩:=g2;exact (hT.dis ad2.block ⟨b2,.inl ⟨u,M,g2⟩⟩).2 (hb ▸ g1)
      |some b1 =>
        obtain ⟨u1,M1,g1⟩:=g1
        cases b2 with
        |none=>exact (hT.dis ad1.block ⟨b1,.inl ⟨u1,M1,g1⟩⟩).2 (hb ▸ g2)
        |some b2 =>
          obtain ⟨u2,M2,g2⟩:=g2;have:=hT.inj b1 b2 _ _ ad1.block g1 g2 rfl (by rw [hb];rfl);subst this;simp [ygn] at hne
    refine zgz (fun f hf=>⟨fun hf2=>?_,fun hf2=>?_⟩) (fun f hf hf2=>?_) (fun f hf=>?_) (fun f hf=>?_)
    . exact hb ((p3 f hf).symm.trans (q2 f hf2))
    . exact hb ((p3 f hf).symm.trans (q3 f hf2))
    . exact hb ((p2 f hf).symm.trans (q3 f hf2))
    . have:=q2 f hf;rcases p4 with p4|⟨p4,p7⟩<;>omega
    . have:=q3 f hf;rcases p4 with p4|⟨p4,p7⟩<;>omega
theorem TW.drawS (hE:zei P Γ) {id:Nat} {ops:Array Oper} {Q:Exit->(Nat->T)->TS->Prop} (k:Nat) (bx:List (Nat×Option Nat)) (outsP:List T) (own:List Nat) (outs:List (T×TS)) {h1:Nat->T} {ob1 ob2:Prop} (hd:ze3 N ops.toList=true) (hoS:zw7 Γ k bx ops.toList=true)
    (hp:runP P Γ GL ops.toList (ops.toList.take k) h S outsP=some (ob1,h1)) (hob1:ob1) (hr:runT P Γ GL own ops.toList (ops.toList.drop k) h1 S outs=some (ob2,h',S')) (hob2:ob2) (hbx:z0q bx h' S') (hq:Q .normal h' S'):TW P Γ GL N (.region id ops true) h S Q:=fun A β fr s hF hT=>by
  have hok:zjc ops.toList.length ops.toList=true:=by
    unfold zw7 at hoS;simp only [d8] at hoS;exact hoS.1
  have hsplit:ops.toList=ops.toList.take k++ops.toList.drop k:=(jn k _).symm
  have hdd:ze3 N (ops.toList.take k)=true/\ze3 N (ops.toList.drop k)=true:=by
    unfold ze3 at hd ⊢;rw [hsplit,lf,d8] at hd;exact hd
  have I0:zrz GL ops.toList A β S s N [] h fr s:=by
    refine ⟨hF.nt,hF.le,hT,fun t=>⟨0,(hF.slot t).mono (fun f hf=>.inl hf) (fun _ _=>rfl) (jt _),fun j o _ _ _ m hm=>by simp at hm⟩,fun k x hx=>by simp at hx,fun k m x y _ hx=>by simp at hx,fun f hf=>(hT.dis f hf).1,hT.alt,?_,hT.le⟩;exact ⟨Can.refl _,fun _ h=>h,fun _ h=>.inl h,fun _ _=>rfl,fun _ h=>.inl h,fun _ h=>h⟩
  obtain ⟨M1,fr1,s1,d1,I1,m1⟩:=z96 hE hok I0 (fun j o hj=>by
    rw [gd,f6];rw [mi] at hj;split at hj
    . exact hj
    . simp at hj) hdd.1 hp hob1
  rw [fb] at I1
  -- behind the first part all may lean on all
  let D:Nat:=2 ^ M1.length - 1
  have hDall:∀ m,m<M1.length->gr D m=true:=fun m hm=>by
    show gr (2 ^ M1.length - 1) m=true;rw [jw];exact zAa hm
  have hT1:TRel GL (SupL A M1 D) β S s1:=by
    refine I1.rel.more _ (fun f hf=>.inl hf) (fun f hf=>?_) (fun f hf ho=>?_)
    . rcases hf with q|⟨m,x,_,q2,_,q4⟩
      . exact I1.rel.alt f q
      . have:=(I1.log m x q2).2.2.1;omega
    . rcases hf with q|⟨m,x,_,q2,q3,q4⟩
      . exact (I1.rel.dis f ho).2 q
      . have:=(I1.log m x q2).1;have:=I1.own f ho;omega
  have hF1:FrOk (SupL A M1 D) β (zaa s1.obj) N h1 fr1:=⟨I1.nt,I1.le,fun t=>by
    obtain ⟨E,e1,_⟩:=I1.slot t
    exact e1.mono (fun f hf=>SupL.sub (fun m hm _=>hDall m hm) hf) (fun _ _=>rfl) (jt _)⟩
  have hS1:Stp A β s (SupL A M1 D) β s1:=by
    refine ⟨I1.calm.can,fun f hf=>.inl hf,fun f hf=>?_,fun f hf=>.inl hf,fun f hf _=>I1.calm.keep f hf,jt _,I1.calm.rd,fun x hx=>.inl (I1.calm.wr x hx)⟩;rcases hf with q|⟨m,x,_,q2,q3,_⟩
    . exact .inl q
    . have:=(I1.log m x q2).1;exact .inr (.inl (by omega))
  obtain ⟨M2,fr2,s2,d2,L2⟩:=z1v hE hdd.2 hF1 hT1 hr hob2;have hdraw:=zku d1 d2;rw [<- hsplit] at hdraw;obtain ⟨f1,f2⟩:=zug hdraw;have L2':=L2;obtain ⟨A2,β2,hF2,hT2,_⟩:=L2';refine W.draw hdraw ?_ ⟨h',S',qh (h':=h) (fr':=fr) hT.le hS1 L2,hq⟩;refine z2s rfl (zo7 fun i j x y hij _ hx hy=>?_);simp only [fb] at hx hy;have hjl:j<ops.toList.length:=by rw [<- f1];exact (et.1 hy).1
  have ho1:ops.toList[i]?=some (ops.toList[i]'(by omega)):=ef _;have ho2:ops.toList[j]?=some (ops.toList[j]'hjl):=ef _;by_cases hkj:k<=j
  . rcases z5v hoS hij hkj ho1 ho2 with q|q|q|q|q|q
    . exact .inl q
    . obtain ⟨a,b,c⟩:=(f2 i _ x ho1 hx).1 q;exact .inr (zih a b c)
    . obtain ⟨a,b⟩:=(f2 j _ y ho2 hy).2 q;exact .inr (zhb a b)
    . obtain ⟨a,b,c⟩:=zn3 hdraw i _ x ho1 hx q;exact .inr (zih a b c)
    . obtain ⟨a,b,c⟩:=zn3 hdraw j _ y ho2 hy q;exact .inr (zhb a b)
    . obtain ⟨w1,a1,b1,w2,a2,b2,g1,g2,g3,g4,g5,g6,g7,g8⟩:=ylp q;have z1:=zw6 hdraw (by rw [hF.nt];exact hF.le) (by rw [hF.nt];exact hd) i _ x w1 a1 ho1 hx g1 g2;have z2:=zw6 hdraw (by rw [hF.nt];exact hF.le) (by rw [hF.nt];exact hd) j _ y w2 a2 ho2 hy g4 g5;exact .inr (yqc hF2 hT2 (z22 hbx g3) (z22 hbx g6) g7 g8 z1 z2)
  . have hjM:j<M1.length:=by rw [m1,gi];omega
    rw [fk (by omega)] at hx;rw [fk hjM] at hy;by_cases hbit:gr (nth 0 (zd1 ops.toList []) j) i=true
    . exact .inl hbit
    . right;obtain ⟨x1,x2,x3,x4,x5⟩:=I1.log i x hx;obtain ⟨y1,y2,y3,y4,y5⟩:=I1.log j y hy;obtain ⟨rx,wx,lo,hi⟩:=x;obtain ⟨ry,wy,lo',hi'⟩:=y;simp only at x1 x2 x3 x4 x5 y1 y2 y3 y4 y5;subst x4;subst y4;refine zgz (fun f hf=>by simp at hf) (fun f _=>by simp) (fun f hf=>?_) (fun f hf=>by simp at hf);obtain ⟨g1,g2⟩:=y5 f hf;rcases g2 with (g2|⟨m,z,g3,g4,g5,g6⟩)|g2
      . have:=I1.base f g2;omega
      . by_cases hmi:m=i
        . subst hmi;exact absurd g3 hbit
        . by_cases hlt:m<i
          . have:=I1.apart m i z _ hlt g4 hx;simp only at this;omega
          . have:=I1.apart i m _ z (by omega) hx g4;simp only at this;omega
      . have:=I1.own f g2;omega
end
section
variable {GL:List (Nat×List Value)} {A A' A2:Nat->Prop} {β β' β2:Bx} {S S' S2:TS} {s s' s2:CS} {P:fe} {Γ:Env} {N:Nat} {h h' h2:Nat->T} {Q R:Exit->(Nat->T)->TS->Prop}
theorem z7n (hE:zei P Γ) {own:List Nat} {ops:List Oper} {N:Nat}:∀ {l:List Oper} {h h':Nat->T} {S S':TS} {outs:List (T×TS)} {ob:Prop} {A:Nat->Prop} {β:Bx} {fr:Fr} {s:CS},ze3 N l=true->FrOk A β (zaa s.obj) N h fr->TRel GL A β S s->runT P Γ GL own ops l h S outs=some (ob,h',S')->ob ->
    ∃ M fr' s',drawC P Γ (ze1 P Γ) ops l fr s=some (M,fr',s')/\Left GL A β s N fr' s' h' S'/\∀ x,x∈M->s.n<=x.lo/\∀ f,f∈x.wr->Own β f\/s.n<=f
  |[],h,h',S,S',outs,ob,A,β,fr,s,hd,hF,hT,hr,hob=>by
    simp only [runT,dy,ec] at hr;obtain ⟨rfl,rfl,rfl⟩:=hr;exact ⟨[],fr,s,rfl,⟨A,β,hF,hT,Stp.refl⟩,fun x hx=>by simp at hx⟩
  |o :: l,h,h',S,S',outs,ob,A,β,fr,s,hd,hF,hT,hr,hob=>by
    have hd':ze3 N l=true/\∀ t,o.dst=some t->t<N:=by
      unfold ze3 at hd ⊢;rw [ig,d8] at hd;refine ⟨hd.2,fun t ht=>?_⟩;have:=hd.1;rw [ht] at this;exact zaf.1 this
    have hTi:=hT.inner
    have go:∀ {t:T} {S1:TS} {r:Option (Value×CS)} {l':List (T×TS)} {ob':Prop},Ok GL A β s.inner r t S1->(cop P Γ (ze1 P Γ) (zgp fr) o s.inner=r)->zde ops fr o=true->runT P Γ GL own ops l (putT h o.dst t) S1 l'=some (ob',h',S')->ob'->∃ M fr' s',drawC P Γ (ze1 P Γ) ops (o :: l) fr s=some (M,fr',s')/\Left GL A β s N fr' s' h' S'/\∀ x,x∈M->s.n<=x.lo/\∀ f,f∈x.wr->Own β f\/s.n<=f:=by
      rintro t S1 r l' ob' ⟨v,s1,A1,β1,rfl,k1,k2,k3⟩ hc hw hrun hob';have hF1:FrOk A1 β1 (zaa s1.obj) N h fr:=hF.mono k3.sub (Stp.old (s:=s.inner) hTi k3) k3.bx;have hS:Stp A β s A1 β1 (s.outer s1):=k3.outer hT.inv;obtain ⟨M,fr',s',e1,e2,e3⟩:=z7n hE hd'.1 (s:=s.outer s1) (hF1.put hd'.2 k2) (k1.outer (kh hT.le k3.can.n)) hrun hob';refine ⟨⟨s1.rd,s1.wr,s.n,s1.n⟩ :: M,fr',s',?_,qh (h':=h) (fr':=fr) hT.le hS e2,fun x hx=>?_⟩;rotate_left
      . rcases ic.1 hx with rfl|hx
        . refine ⟨ei _,fun f hf=>?_⟩;rcases k3.wr f hf with q|q
          . exact absurd q (by simp [CS.inner])
          . exact .inl q.2
        . refine ⟨kh hS.can.n (e3 x hx).1,fun f hf=>?_⟩;rcases (e3 x hx).2 f hf with q|q
          . rcases hS.own f q with r|r
            . exact .inl r
            . exact .inr r
          . exact .inr (kh hS.can.n q)
      rw [drawC]
      have:zcw P Γ (ze1 P Γ) ops o fr s.inner=some (putC fr o.dst v,s1):=by
        unfold zcw;rw [hw,cond_true,hc]
      rw [this];simp only;rw [e1]
    unfold runT at hr;split at hr
    . simp at hr
    . rename_i hg;have hw:=ziy hF hg;have hS:Stp A β s A β (s.outer s.inner):=Stp.outer hT.inv Stp.refl;obtain ⟨M,fr',s',e1,e2,e3⟩:=z7n hE hd'.1 (s:=s.outer s.inner) (hF.put hd'.2 VT.undf) (hTi.outer hT.le) hr hob;refine ⟨⟨[],[],s.n,s.n⟩ :: M,fr',s',?_,qh (h':=h) (fr':=fr) hT.le hS e2,fun x hx=>?_⟩;rotate_left
      . rcases ic.1 hx with rfl|hx
        . exact ⟨ei _,fun f hf=>by simp at hf⟩
        . exact e3 x hx
      rw [drawC]
      have:zcw P Γ (ze1 P Γ) ops o fr s.inner=some (putC fr o.dst undef,s.inner):=by
        unfold zcw;rw [hw,cond_false]
      rw [this];simp only;rw [e1];rfl
    . rename_i hg;have hw:=ziy hF hg;split at hr
      . rename_i f args tys ho;split at hr
        . rename_i r outs';split at hr
          . rename_i p hp;unfold z2u at hp;split at hp
            . rename_i k first cap hf
              simp only [dy] at hp;subst hp
              cases hrun:runT P Γ GL own ops l (putT h o.dst r.1) r.2 outs' with
              |none=>rw [hrun] at hr;simp [andT] at hr
              |some q =>
                obtain ⟨q1,q2,q3⟩:=q;rw [hrun] at hr;simp only [andT,dy,ec] at hr;obtain ⟨rfl,rfl,rfl⟩:=hr;have hfv:=hF.eval hT f;rw [hf] at hfv;generalize e1:zgp fr f=vf at hfv
                cases hfv with
                |fn h1 h2 =>
                  rename_i va vc;have hargs:=zxm (hF.eval hT) args.toList;have hcall:=hob.1 A β s.inner _ hTi ((h1.append hargs).append h2);refine go hcall ?_ hw hrun hob.2;unfold cop;simp only [ho,e1];unfold zmz;rfl
            . simp at hp
          . simp at hr
        . simp at hr
      . split at hr
        . rename_i t S1 hst;exact go (z06 hE hTi (hF.eval hT) hst) rfl hw hr hob
        . simp at hr
def isCp:T->Prop
  |.cp _=>True
  |_=>False
def z82 (h:Nat->T):List Nat->Prop
  |[]=>True
  |a :: l=>isCp (h a)/\z82 h l
theorem zxb {h:Nat->T} {a:Nat}:∀ {l:List Nat},z82 h l->a∈l->∃ m,h a=.cp m
  |[],_,ha=>by simp at ha
  |b :: l,k,ha=>by
    rcases ic.1 ha with rfl|ha
    . have:=k.1;unfold isCp at this;split at this
      . next m e=>exact ⟨m,e⟩
      . exact this.elim
    . exact zxb k.2 ha
noncomputable def zw1 (cs:List Nat) (a:Nat) (all:List Oper):List Oper->Bool
  |[]=>false
  |o :: l=>match o.dst with
    |some d=>bif er d a then (match o.op with|.fieldAddr _ (.tmp b) _=>cs.any (er b) && (zji b all && zji a l)|_=>false)
      else (match lsOf o with|some (_,c)=>!(er c a)|none=>true) && zw1 cs a all l
    |none=>(match lsOf o with|some (_,c)=>!(er c a)|none=>true) && zw1 cs a all l
noncomputable def ybr (cs:List Nat) (all:List Oper) (o:Oper):Bool:=match lsOf o with
  |some (0,a)=>(cs.any (er a) && zji a all) || zw1 cs a all all
  |_=>false
noncomputable def yal (Γ:Env) (cs:List Nat) (all:List Oper) (x y:Bool×Oper×Option (Nat×Option Nat)):Bool:=y.1 && !(zi3 x.2.1.op || (zjh y.2.1.op || (znw Γ x.2.1 || (znw Γ y.2.1 || (ybr cs all x.2.1 || ybr cs all y.2.1)))))
noncomputable def zsp (Γ:Env) (k:Nat) (cs:List Nat) (ops:List Oper):Bool:=zjc ops.length ops && zgq (yal Γ cs ops) [] (tagS [] k ops) (zd1 ops [])
theorem ye6 {a:Nat} {all:List Oper} {i:Nat} {o:Oper} (h:zji a all=true) (ho:all[i]?=some o):zlk 0 a o (all.drop (i+1))=true:=by
  unfold zlk;unfold zji at h ⊢;rw [fd] at h;rw [d8,kw];refine ⟨fd.2 fun x hx=>h x (lm hx),.inr ?_⟩;rw [ig,od,Bool.and_true];exact h o (ij ho)
def FaAt (a b:Nat) (all:List Oper):Prop:=∃ (i0:Nat) (o0:Oper) (ty:fc) (k:Nat),all[i0]?=some o0/\o0.op=.fieldAddr ty (.tmp b) k/\o0.dst=some a/\zji a (all.drop (i0+1))=true
theorem yjz {cs:List Nat} {a:Nat} (h:cs.any (er a)=true):a∈cs:=by
  obtain ⟨b,hb,hab⟩:=List.any_eq_true.1 h;have:a=b:=eg hab;subst this;exact hb
theorem zz8 {cs:List Nat} {a:Nat} {all:List Oper}:∀ {l:List Oper},zw1 cs a all l=true->∃ b i0 o0 ty k,b∈cs/\zji b all=true/\l[i0]?=some o0/\o0.op=.fieldAddr ty (.tmp b) k/\o0.dst=some a/\zji a (l.drop (i0+1))=true/\∀ i o w,l[i]?=some o->lsOf o=some (w,a)->i0<i
  |[],h=>by simp [zw1] at h
  |o :: l,h=>by
    have next:(match lsOf o with|some (_,c)=>!(er c a)|none=>true)=true->zw1 cs a all l=true->∃ b i0 o0 ty k,b∈cs/\zji b all=true/\(o :: l)[i0]?=some o0/\o0.op=.fieldAddr ty (.tmp b) k/\o0.dst=some a/\zji a ((o :: l).drop (i0+1))=true/\∀ i o' w,(o :: l)[i]?=some o'->lsOf o'=some (w,a)->i0<i:=by
      intro h1 h2;obtain ⟨b,i0,o0,ty,k,q1,q2,q3,q4,q5,q6,q7⟩:=zz8 h2;refine ⟨b,i0+1,o0,ty,k,q1,q2,by simpa using q3,q4,q5,by simpa using q6,fun i o' w hi hw=>?_⟩
      cases i with
      |zero =>
        simp only [fx,dy] at hi;subst hi;rw [hw] at h1
        simp at h1
      |succ i=>have:=q7 i o' w (by simpa using hi) hw;omega
    rw [zw1] at h
    cases hd:o.dst with
    |none =>
      rw [hd] at h;simp only [d8] at h
      exact next h.1 h.2
    |some d =>
      rw [hd] at h;simp only at h
      cases hb:er d a with
      |false =>
        rw [hb,cond_false,d8] at h
        exact next h.1 h.2
      |true =>
        rw [hb,cond_true] at h;have:=eg hb;subst this;split at h
        . next ty b k e =>
          simp only [d8] at h;refine ⟨b,0,o,ty,k,yjz h.1,h.2.1,rfl,e,hd,by simpa using h.2.2,fun i o' w hi hw=>?_⟩
          cases i with
          |zero =>
            simp only [fx,dy] at hi;subst hi;unfold lsOf at hw;rw [e] at hw
            simp at hw
          |succ i=>omega
        . simp at h
theorem z0j {cs:List Nat} {all:List Oper} {o:Oper} (h:ybr cs all o=true) {i:Nat} (ho:all[i]?=some o):∃ a b,lsOf o=some (0,a)/\b∈cs/\zji b all=true/\zlk 0 a o (all.drop (i+1))=true/\(a=b\/FaAt a b all):=by
  unfold ybr at h;split at h
  . next a e =>
    rw [kw,d8] at h;rcases h with h|h
    . exact ⟨a,a,e,yjz h.1,h.2,ye6 h.2 ho,.inl rfl⟩
    . obtain ⟨b,i0,o0,ty,k,q1,q2,q3,q4,q5,q6,q7⟩:=zz8 h;have hlt:=q7 i o 0 ho e;refine ⟨a,b,e,q1,q2,?_,.inr ⟨i0,o0,ty,k,q3,q4,q5,q6⟩⟩;unfold zlk;unfold zji at q6 ⊢;rw [fd] at q6;rw [d8,kw];refine ⟨fd.2 fun x hx=>q6 x ?_,.inr ?_⟩
      . have:all.drop (i+1)=(all.drop (i0+1)).drop (i - i0):=by rw [ks];congr 1;omega
        rw [this] at hx;exact lm hx
      . rw [ig,od,Bool.and_true];refine q6 o ?_;have:(all.drop (i0+1))[i - (i0+1)]?=some o:=by rw [js,<- ho];congr 1;omega
        exact ij this
  . simp at h
theorem z8k {ops:List Oper} {a b:Nat}:∀ {l:List Oper} {fr fr':Fr} {s s':CS} {L:List Lg} {call:zc8},drawC P Γ call ops l fr s=some (L,fr',s')->fr.nt<=512->ze3 fr.nt l=true->zji b l=true->FaAt a b l->∀ {ad:Addr},IsAd (fr'.get a) ad->∃ ad0,IsAd (fr.get b) ad0/\ad0.block=ad.block
  |[],fr,fr',s,s',L,call,hc,_,_,_,⟨i0,o0,ty,k,q,_⟩,_,_=>by simp at q
  |o :: l,fr,fr',s,s',L,call,hc,h5,hdo,hn,⟨i0,o0,ty,k,q3,q4,q5,q6⟩,ad,had=>by
    simp only [drawC] at hc;have hn':=hn;unfold zji at hn;rw [ig,d8] at hn;unfold ze3 at hdo;rw [ig,d8] at hdo;split at hc
    . rename_i fr1 t h1;split at hc
      . rename_i logs fr2 s2 h2;cases hc
        have hfr:∃ v,fr1=putC fr o.dst v:=by
          unfold zcw at h1
          cases hw:zde ops fr o with
          |false =>
            rw [hw] at h1;simp only [cond_false,dy,ec] at h1;exact ⟨_,h1.1.symm⟩
          |true =>
            rw [hw,cond_true] at h1;split at h1
            . cases h1;exact ⟨_,rfl⟩
            . simp at h1
        have hnt:fr1.nt=fr.nt:=by obtain ⟨v,rfl⟩:=hfr;exact zvr _ _ _
        cases i0 with
        |succ i0 =>
          obtain ⟨ad0,k1,k2⟩:=z8k h2 (by rw [hnt];exact h5) (by rw [hnt];exact hdo.2) hn.2 ⟨i0,o0,ty,k,by simpa using q3,q4,q5,by simpa using q6⟩ had;obtain ⟨v,rfl⟩:=hfr;rw [z2a h5 hn.1] at k1;exact ⟨ad0,k1,k2⟩
        |zero =>
          simp only [fx,dy] at q3;subst q3;rw [zru h2 (by rw [hnt];exact h5) (show zji a l=true by simpa using q6)] at had;unfold zcw at h1;rw [q5] at h1 hdo;have hlt:a<fr.nt:=zaf.1 hdo.1
          cases hw:zde ops fr o with
          |false =>
            rw [hw] at h1;simp only [cond_false,dy,ec] at h1;rw [<- h1.1] at had;change IsAd ((fr.put a undef).get a) ad at had;rw [ra _ hlt h5] at had
            rcases had with e|⟨_,_,e⟩<;>cases e
          |true =>
            rw [hw,cond_true] at h1;split at h1
            . rename_i v t2 hcop;cases h1;change IsAd ((fr.put a v).get a) ad at had;rw [ra _ hlt h5] at had;unfold cop at hcop;rw [q4] at hcop;simp only at hcop;change zdg Γ _ ty k (fr.get b)=_ at hcop;unfold zdg at hcop;split at hcop
              . rename_i a0 hv0;split at hcop
                . split at hcop
                  . split at hcop
                    . rename_i off size _
                      cases hz:er size 0 with
                      |true=>rw [hz] at hcop;simp at hcop
                      |false =>
                        rw [hz] at hcop;simp only [cond_false,dy,ec] at hcop;refine ⟨a0,.inl hv0,?_⟩;rw [<- hcop.1] at had;rcases had with e|⟨_,_,e⟩
                        . cases e;rfl
                        . cases e
                    . simp at hcop
                  . simp at hcop
                . simp at hcop
              . simp at hcop
            . simp at h1
      . simp at hc
    . simp at hc
theorem z5w {Γ:Env} {k:Nat} {cs:List Nat} {ops:List Oper} (hd:zsp Γ k cs ops=true) {i j:Nat} {x y:Oper} (hij:i<j) (hkj:k<=j) (hx:ops[i]?=some x) (hy:ops[j]?=some y):gr (nth 0 (zd1 ops []) j) i=true\/zi3 x.op=true\/zjh y.op=true\/znw Γ x=true\/znw Γ y=true\/(∃ a b,lsOf x=some (0,a)/\b∈cs/\zji b ops=true/\zlk 0 a x (ops.drop (i+1))=true/\(a=b\/FaAt a b ops))\/(∃ a b,lsOf y=some (0,a)/\b∈cs/\zji b ops=true/\zlk 0 a y (ops.drop (j+1))=true/\(a=b\/FaAt a b ops)):=by
  unfold zsp at hd;simp only [d8] at hd;rcases zgc hd.2 i j _ _ hij (gb _) (by simpa using zoh hx) (by simpa using zoh hy) with q|q
  . exact .inl q
  . unfold yal at q;rw [zAa hkj] at q;simp only [ju,oy,kw] at q;rcases q with q|q|q|q|q|q
    . exact .inr (.inl q)
    . exact .inr (.inr (.inl q))
    . exact .inr (.inr (.inr (.inl q)))
    . exact .inr (.inr (.inr (.inr (.inl q))))
    . exact .inr (.inr (.inr (.inr (.inr (.inl (z0j q hx))))))
    . exact .inr (.inr (.inr (.inr (.inr (.inr (z0j q hy))))))
theorem TW.drawC (hE:zei P Γ) {id:Nat} {ops:Array Oper} {Q:Exit->(Nat->T)->TS->Prop} (k:Nat) (cs:List Nat) (outsP:List T) (own:List Nat) (outs:List (T×TS)) {h1:Nat->T} {ob1 ob2:Prop} (hd:ze3 N ops.toList=true) (hoS:zsp Γ k cs ops.toList=true)
    (hp:runP P Γ GL ops.toList (ops.toList.take k) h S outsP=some (ob1,h1)) (hob1:ob1) (hr:runT P Γ GL own ops.toList (ops.toList.drop k) h1 S outs=some (ob2,h',S')) (hob2:ob2) (hcs:z82 h cs) (hq:Q .normal h' S'):TW P Γ GL N (.region id ops true) h S Q:=fun A β fr s hF hT=>by
  have hok:zjc ops.toList.length ops.toList=true:=by
    unfold zsp at hoS;simp only [d8] at hoS;exact hoS.1
  have hsplit:ops.toList=ops.toList.take k++ops.toList.drop k:=(jn k _).symm
  have hdd:ze3 N (ops.toList.take k)=true/\ze3 N (ops.toList.drop k)=true:=by
    unfold ze3 at hd ⊢;rw [hsplit,lf,d8] at hd;exact hd
  have I0:zrz GL ops.toList A β S s N [] h fr s:=by
    refine ⟨hF.nt,hF.le,hT,fun t=>⟨0,(hF.slot t).mono (fun f hf=>.inl hf) (fun _ _=>rfl) (jt _),fun j o _ _ _ m hm=>by simp at hm⟩,fun k x hx=>by simp at hx,fun k m x y _ hx=>by simp at hx,fun f hf=>(hT.dis f hf).1,hT.alt,?_,hT.le⟩;exact ⟨Can.refl _,fun _ h=>h,fun _ h=>.inl h,fun _ _=>rfl,fun _ h=>.inl h,fun _ h=>h⟩
  obtain ⟨M1,fr1,s1,d1,I1,m1⟩:=z96 hE hok I0 (fun j o hj=>by
    rw [gd,f6];rw [mi] at hj;split at hj
    . exact hj
    . simp at hj) hdd.1 hp hob1
  rw [fb] at I1
  -- behind the first part all may lean on all
  let D:Nat:=2 ^ M1.length - 1
  have hDall:∀ m,m<M1.length->gr D m=true:=fun m hm=>by
    show gr (2 ^ M1.length - 1) m=true;rw [jw];exact zAa hm
  have hT1:TRel GL (SupL A M1 D) β S s1:=by
    refine I1.rel.more _ (fun f hf=>.inl hf) (fun f hf=>?_) (fun f hf ho=>?_)
    . rcases hf with q|⟨m,x,_,q2,_,q4⟩
      . exact I1.rel.alt f q
      . have:=(I1.log m x q2).2.2.1;omega
    . rcases hf with q|⟨m,x,_,q2,q3,q4⟩
      . exact (I1.rel.dis f ho).2 q
      . have:=(I1.log m x q2).1;have:=I1.own f ho;omega
  have hF1:FrOk (SupL A M1 D) β (zaa s1.obj) N h1 fr1:=⟨I1.nt,I1.le,fun t=>by
    obtain ⟨E,e1,_⟩:=I1.slot t
    exact e1.mono (fun f hf=>SupL.sub (fun m hm _=>hDall m hm) hf) (fun _ _=>rfl) (jt _)⟩
  have hS1:Stp A β s (SupL A M1 D) β s1:=by
    refine ⟨I1.calm.can,fun f hf=>.inl hf,fun f hf=>?_,fun f hf=>.inl hf,fun f hf _=>I1.calm.keep f hf,jt _,I1.calm.rd,fun x hx=>.inl (I1.calm.wr x hx)⟩;rcases hf with q|⟨m,x,_,q2,q3,_⟩
    . exact .inl q
    . have:=(I1.log m x q2).1;exact .inr (.inl (by omega))
  obtain ⟨M2,fr2,s2,d2,L2,W2⟩:=z7n hE hdd.2 hF1 hT1 hr hob2;have hdraw:=zku d1 d2;rw [<- hsplit] at hdraw;obtain ⟨f1,f2⟩:=zug hdraw;have L2':=L2;obtain ⟨A2,β2,hF2,hT2,_⟩:=L2';refine W.draw hdraw ?_ ⟨h',S',qh (h':=h) (fr':=fr) hT.le hS1 L2,hq⟩;refine z2s rfl (zo7 fun i j x y hij _ hx hy=>?_);simp only [fb] at hx hy;have hjl:j<ops.toList.length:=by rw [<- f1];exact (et.1 hy).1
  have ho1:ops.toList[i]?=some (ops.toList[i]'(by omega)):=ef _;have ho2:ops.toList[j]?=some (ops.toList[j]'hjl):=ef _;by_cases hkj:k<=j
  . rcases z5w hoS hij hkj ho1 ho2 with q|q|q|q|q|⟨a1,b1,q1,q2,q3,q4,q5⟩|⟨a1,b1,q1,q2,q3,q4,q5⟩
    . exact .inl q
    . obtain ⟨a,b,c⟩:=(f2 i _ x ho1 hx).1 q;exact .inr (zih a b c)
    . obtain ⟨a,b⟩:=(f2 j _ y ho2 hy).2 q;exact .inr (zhb a b)
    . obtain ⟨a,b,c⟩:=zn3 hdraw i _ x ho1 hx q;exact .inr (zih a b c)
    . obtain ⟨a,b,c⟩:=zn3 hdraw j _ y ho2 hy q;exact .inr (zhb a b)
    . have z1:=zw6 hdraw (by rw [hF.nt];exact hF.le) (by rw [hF.nt];exact hd) i _ x 0 a1 ho1 hx q1 q4
      have hyM:y∈M2:=by
        have hm1:M1.length<=j:=by rw [m1,gi];omega
        rw [gm hm1] at hy;exact ij hy
      have ga:∀ {ad:Addr},IsAd (fr2.get a1) ad->∃ ad0,IsAd (fr.get b1) ad0/\ad0.block=ad.block:=by
        intro ad had;rcases q5 with rfl|q5
        . rw [zru hdraw (by rw [hF.nt];exact hF.le) q3] at had;exact ⟨ad,had,rfl⟩
        . exact z8k hdraw (by rw [hF.nt];exact hF.le) (by rw [hF.nt];exact hd) q3 q5 had
      obtain ⟨l,hl⟩:=zxb hcs q2;obtain ⟨rx,wx,lo,hi⟩:=x;obtain ⟨ry,wy,lo',hi'⟩:=y;simp only [ydu] at z1;rcases z1 with ⟨p1,p2,p3⟩|⟨ad1,p1,p2,p3,p4,p5,p6⟩
      . exact .inr (zih p1 p2 p3)
      . obtain ⟨ad0,g1,g2⟩:=ga p1
        have fa:A ad1.block:=by
          rw [<- g2];exact z21 (S:=S) (b:=none) hF hT (by rw [hl];trivial) g1
        have e5:=p5 trivial;have e6:=p6 (by omega);refine .inr (zgz (fun f hf=>by simp [e5] at hf) (fun f hf hw=>?_) (fun f _=>by omega) (fun f _=>by omega));rw [p2 f hf] at hw;rcases (W2 _ hyM).2 _ hw with r|r
        . exact (hT.dis _ r).2 fa
        . have:=hT.alt _ fa;have:=I1.calm.can.n;omega
    . have z1:=zw6 hdraw (by rw [hF.nt];exact hF.le) (by rw [hF.nt];exact hd) j _ y 0 a1 ho2 hy q1 q4
      have ga:∀ {ad:Addr},IsAd (fr2.get a1) ad->∃ ad0,IsAd (fr.get b1) ad0/\ad0.block=ad.block:=by
        intro ad had;rcases q5 with rfl|q5
        . rw [zru hdraw (by rw [hF.nt];exact hF.le) q3] at had;exact ⟨ad,had,rfl⟩
        . exact z8k hdraw (by rw [hF.nt];exact hF.le) (by rw [hF.nt];exact hd) q3 q5 had
      obtain ⟨l,hl⟩:=zxb hcs q2
      have xlo:s.n<=x.lo/\∀ f,f∈x.wr->Own β f\/s.n<=f:=by
        by_cases hi:i<M1.length
        . rw [fk hi] at hx;obtain ⟨x1,_,_,x4,_⟩:=I1.log i x hx;exact ⟨x1,fun f hf=>by rw [x4] at hf;simp at hf⟩
        . rw [gm (by omega)] at hx;have w:=W2 _ (ij hx);have:=I1.calm.can.n;exact ⟨by omega,fun f hf=>(w.2 f hf).imp (fun r=>r) (fun r=>by omega)⟩
      obtain ⟨rx,wx,lo,hi⟩:=x;obtain ⟨ry,wy,lo',hi'⟩:=y;simp only [ydu] at z1;rcases z1 with ⟨p1,p2,p3⟩|⟨ad1,p1,p2,p3,p4,p5,p6⟩
      . exact .inr (zhb p1 p2)
      . obtain ⟨ad0,g1,g2⟩:=ga p1
        have fa:A ad1.block:=by
          rw [<- g2];exact z21 (S:=S) (b:=none) hF hT (by rw [hl];trivial) g1
        have e5:=p5 trivial;have:=hT.alt _ fa;simp only at xlo;refine .inr (zgz (fun f hf=>⟨fun hr=>?_,fun hw=>by simp [e5] at hw⟩) (fun f hf hw=>by simp [e5] at hw) (fun f hr=>.inl ?_) (fun f hw=>by simp [e5] at hw))
        . rw [p2 f hr] at hf;rcases xlo.2 _ hf with r|r
          . exact (hT.dis _ r).2 fa
          . omega
        . rw [p2 f hr];omega
  . have hjM:j<M1.length:=by rw [m1,gi];omega
    rw [fk (by omega)] at hx;rw [fk hjM] at hy;by_cases hbit:gr (nth 0 (zd1 ops.toList []) j) i=true
    . exact .inl hbit
    . right;obtain ⟨x1,x2,x3,x4,x5⟩:=I1.log i x hx;obtain ⟨y1,y2,y3,y4,y5⟩:=I1.log j y hy;obtain ⟨rx,wx,lo,hi⟩:=x;obtain ⟨ry,wy,lo',hi'⟩:=y;simp only at x1 x2 x3 x4 x5 y1 y2 y3 y4 y5;subst x4;subst y4;refine zgz (fun f hf=>by simp at hf) (fun f _=>by simp) (fun f hf=>?_) (fun f hf=>by simp at hf);obtain ⟨g1,g2⟩:=y5 f hf;rcases g2 with (g2|⟨m,z,g3,g4,g5,g6⟩)|g2
      . have:=I1.base f g2;omega
      . by_cases hmi:m=i
        . subst hmi;exact absurd g3 hbit
        . by_cases hlt:m<i
          . have:=I1.apart m i z _ hlt g4 hx;simp only at this;omega
          . have:=I1.apart i m _ z (by omega) hx g4;simp only at this;omega
      . have:=I1.own f g2;omega
end
end Go.Proofs.YteifcnjpjjaikaaGreat
