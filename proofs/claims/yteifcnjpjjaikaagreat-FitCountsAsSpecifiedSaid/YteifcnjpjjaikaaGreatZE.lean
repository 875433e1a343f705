/- Part 5 of the proof of FitCountsAsSpecified (several texts in one; no further condition). -/
import Derived.Test.YteifcnjpjjaikaaGreatZD
import Derived.Test.YteifcnjpjjaikaaGreatProg
import Derived.KernelRfl
set_option linter.unusedSimpArgs false
set_option linter.unusedVariables false
set_option linter.unusedSectionVars false
namespace Go.Proofs.YteifcnjpjjaikaaGreat
open _root_.And renaming intro->dm
open _root_.BitVec renaming ofInt->ge
open _root_.Bool renaming and_eq_true->dr,and_self->et,and_true->mj,false_and->pg,not_true->f6,true_and->iw
open Go.Proofs.YteifcnjpjjaikaaGreat.Bx renaming le_refl->ip
open Go.Proofs.YteifcnjpjjaikaaGreat.CS renaming inner->pn
open _root_.Eq renaming trans->d6
open Go renaming IntKind->fx,Operand->d8,Program->ep,TypeId->ed
open Go.Proofs.YteifcnjpjjaikaaGreat.Left renaming trans->mb
open _root_.List renaming all_cons->ii,append_assoc->fe,append_nil->fj,cons_append->fd,drop_append->nw,drop_drop->l7,drop_of_length_le->il,drop_succ_cons->ir,drop_zero->fp,flatMap_cons->ij,flatten_cons->fm,getD_eq_getElem?_getD->ef,getElem?_append_left->eu,getElem?_append_right->fq,getElem?_cons_succ->ji,getElem?_cons_zero->fl,getElem?_drop->jk,getElem?_eq_getElem->dv,getElem?_eq_none->ic,getElem?_eq_some_iff->d9,getElem?_map->kj,length_append->er,length_cons->eh,length_drop->gp,length_map->ec,length_nil->gh,length_replicate->ml,length_set->od,length_singleton->jh,length_take->fi,map_append->na,map_cons->gb,map_map->oh,map_nil->oz,nil_append->ff,range'->n8,replicate->ew,replicate_succ->gu,set_cons_succ->ke,set_cons_zero->nd,take_append->nv,take_append_drop->iq,take_of_length_le->fk,take_succ_cons->jy,take_zero->ky
open Go.Proofs.YteifcnjpjjaikaaGreat.Loc renaming fam->i4
open _root_.Nat renaming add_mul->ig,add_zero->gm,beq_refl->gw,le_refl->dz,lt_of_lt_of_le->ei,mul_one->nf,one_mul->mr,reduceAdd->ek,reduceSub->gt,sub_self->po,testBit->ft,testBit_and->jf,testBit_or->mq,testBit_two_pow_sub_one->i7,zero_add->fz,zero_le->fw
open _root_.Option renaming bind_some->dq
open _root_.Option.some renaming injEq->dp
open _root_.Prod.mk renaming injEq->du
open Go.Proofs.YteifcnjpjjaikaaGreat.T renaming bool->oy,cells->gd,ids->jg,idsL->fy,int->dy,one->jn,str->l6
open Go.Proofs.YteifcnjpjjaikaaGreat.TS renaming set_ne->gl,set_same->g0
open Go.Value renaming int->ju
set_option maxRecDepth 100000
open Go Go.RowKit
noncomputable def z6w (P:ep) (Γ:Env) (GL:List (Nat×List Value)) (S:TS) (args:List T) (f:T) (r:T):Option Prop:=match f with
  |.fn k first cap=>some (zaj P Γ GL k (first++args++cap) S r)
  |_=>none
noncomputable def andP (p:Prop):Option (Prop×(Nat->T))->Option (Prop×(Nat->T))
  |some (q,h)=>some (p/\q,h)
  |none=>none
noncomputable def runP (P:ep) (Γ:Env) (GL:List (Nat×List Value)) (ops:List Oper):List Oper->(Nat->T)->TS->List T->Option (Prop×(Nat->T))
  |[],h,_,_=>some (True,h)
  |o :: l,h,S,outs=>match zij ops h o.guard with
    |none=>none
    |some false=>runP P Γ GL ops l (putT h o.dst (.tup [])) S outs
    |some true=>match o.op with
      |.call ⟨.value f,args,tys⟩=>(match outs with
        |r :: outs=>(match z6w P Γ GL S (args.toList.map (zd4 GL h)) (zd4 GL h f) r with
          |some p=>andP p (runP P Γ GL ops l (putT h o.dst r) S outs)
          |none=>none)
        |[]=>none)
      |_=>(match zfg P Γ (zd4 GL h) o S with
        |some t=>runP P Γ GL ops l (putT h o.dst t) S outs
        |none=>none)
noncomputable def ymg (ops:List Oper) (x y:Oper):Bool:=match x.dst with|some d=>has (zfh ops y) d|none=>false
noncomputable def zxa:Nat->List Oper->List (Bool×Oper)
  |_,[]=>[]
  |0,o :: l=>(true,o) :: zxa 0 l
  |k+1,o :: l=>(false,o) :: zxa k l
noncomputable def ye6 (x y:Bool×Oper):Bool:=y.1 && !(ziq x.2.op || zi2 y.2.op)
noncomputable def zs7 (m:Nat):List Nat->Nat->Bool
  |[],_=>true
  |x :: l,i=>(!Nat.testBit m i || Nat.beq (Nat.land x m) x) && zs7 m l (i+1)
noncomputable def ziu (k:Nat) (ops:List Oper):Bool :=
  zgh (ymg ops) [] ops (zdq ops []) && (zgh ye6 [] (zxa k ops) (zdq ops []) && (zdq ops []).all fun m=>zs7 m (zdq ops []) 0)
theorem ztz {m:Nat}:∀ {l:List Nat} {i:Nat},zs7 m l i=true->∀ j,j<l.length->ft m (i+j)=true->∀ b,ft (nth 0 l j) b=true->ft m b=true
  |[],_,_,j,hj,_,_,_=>by simp at hj
  |x :: l,i,h,j,hj,ht,b,hb=>by
    simp only [zs7,dr] at h
    cases j with
    |zero =>
      have h1:=h.1;rw [show ft m i=true from ht] at h1;simp only [f6,Bool.false_or] at h1;have h2:x &&& m=x:=Nat.eq_of_beq_eq_true h1;have h3:ft x b=true:=hb;rw [<- h2,jf,dr] at h3;exact h3.2
    |succ j=>exact ztz h.2 j (by simpa using hj) (by rw [show i+1+j=i+(j+1) by omega];exact ht) b hb
theorem z25:∀ (l:List Oper) (ms:List Nat),(zdq l ms).length=ms.length+l.length
  |[],ms=>by simp [zdq]
  |o :: l,ms=>by
    simp only [zdq];rw [z25 l];simp only [er,eh,gh];omega
theorem zno:∀ {k:Nat} {ops:List Oper} {i:Nat} {o:Oper},ops[i]?=some o->(zxa k ops)[i]?=some (decide (k<=i),o)
  |_,[],i,o,h=>by simp at h
  |0,x :: l,i,o,h=>by
    cases i with
    |zero=>simp only [fl,dp] at h;subst h;rfl
    |succ i =>
      have:=zno (k:=0) (ops:=l) (i:=i) (by simpa using h)
      simpa [zxa] using this
  |k+1,x :: l,i,o,h=>by
    cases i with
    |zero=>simp only [fl,dp] at h;subst h;rfl
    |succ i =>
      have:=zno (k:=k) (ops:=l) (i:=i) (by simpa using h);simpa [zxa] using this
section
variable {GL:List (Nat×List Value)} {A A' A0:Nat->Prop} {β β':Bx} {S S':TS} {s s0 s' s2:CS} {P:ep} {Γ:Env} {N:Nat} {h h':Nat->T}
theorem ybl {k:Nat} {ops:List Oper} (hd:ziu k ops=true) {i j:Nat} {x y:Oper} (hij:i<j) (hx:ops[i]?=some x) (hy:ops[j]?=some y) {d:Nat} (hxd:x.dst=some d) (hdy:d∈zfh ops y):ft (nth 0 (zdq ops []) j) i=true:=by
  unfold ziu at hd;simp only [dr] at hd;rcases zf0 hd.1 i j x y hij (fw _) (by simpa using hx) (by simpa using hy) with q|q
  . exact q
  . unfold ymg at q;rw [hxd] at q;simp only at q;rw [zpa hdy] at q;simp at q
theorem z6l {k:Nat} {ops:List Oper} (hd:ziu k ops=true) {i j:Nat} {x y:Oper} (hij:i<j) (hkj:k<=j) (hx:ops[i]?=some x) (hy:ops[j]?=some y):ft (nth 0 (zdq ops []) j) i=true\/ziq x.op=true\/zi2 y.op=true:=by
  unfold ziu at hd;simp only [dr] at hd;rcases zf0 hd.2.1 i j _ _ hij (fw _) (by simpa using zno hx) (by simpa using zno hy) with q|q
  . exact .inl q
  . unfold ye6 at q;rw [zAa hkj] at q;simp only [iw,Bool.not_eq_false',Bool.or_eq_true] at q;exact .inr q
theorem z35 {k:Nat} {ops:List Oper} (hd:ziu k ops=true) {j i b:Nat} (hj:j<ops.length) (hi:i<ops.length) (h1:ft (nth 0 (zdq ops []) j) i=true) (h2:ft (nth 0 (zdq ops []) i) b=true):ft (nth 0 (zdq ops []) j) b=true:=by
  unfold ziu at hd;simp only [dr] at hd;have hl:=z25 ops [];simp only [gh,fz] at hl
  have hm:nth 0 (zdq ops []) j∈zdq ops []:=by
    have key:∀ (l:List Nat) (j:Nat),j<l.length->nth 0 l j∈l:=by
      intro l
      induction l with
      |nil=>intro j hj;simp at hj
      |cons x l ih =>
        intro j hj
        cases j with
        |zero=>exact List.mem_cons_self
        |succ j=>exact List.mem_cons_of_mem _ (ih j (by simpa using hj))
    exact key _ j (by omega)
  have:=List.all_eq_true.1 hd.2.2 _ hm;exact ztz this i (by omega) (by rw [fz];exact h1) b h2
def SupL (A0:Nat->Prop) (L:List Lg) (D:Nat) (f:Nat):Prop:=A0 f\/∃ (m:Nat) (x:Lg),ft D m=true/\L[m]?=some x/\x.lo<=f/\f<x.hi
theorem SupL.more {L M:List Lg} {D E:Nat} (hD:∀ m,m<L.length->ft D m=true->ft E m=true) {f:Nat} (k:SupL A0 L D f):SupL A0 (L++M) E f:=by
  rcases k with k|⟨m,x,h1,h2,h3⟩
  . exact .inl k
  . have hm:=(d9.1 h2).1;exact .inr ⟨m,x,hD m hm h1,by rw [eu hm];exact h2,h3⟩
theorem SupL.sub {L:List Lg} {D E:Nat} (hD:∀ m,m<L.length->ft D m=true->ft E m=true) {f:Nat} (k:SupL A0 L D f):SupL A0 L E f:=by
  have:=SupL.more (M:=[]) hD k;simpa using this
structure zq6 (GL:List (Nat×List Value)) (ops:List Oper) (A0:Nat->Prop) (β:Bx) (S:TS) (s0:CS) (N:Nat) (L:List Lg) (h:Nat->T) (fr:Fr) (s:CS):Prop where
  nt:fr.nt=N
  le:N<=512
  rel:TRel GL A0 β S s
  slot:∀ t,∃ D,VT (SupL A0 L D) β (zaa s.obj) (h t) (fr.get t)/\∀ (j:Nat) (o:Oper),L.length<=j->ops[j]?=some o->t∈zfh ops o->∀ m,m<L.length->ft D m=true->ft (nth 0 (zdq ops []) j) m=true
  log:∀ (k:Nat) (x:Lg),L[k]?=some x->s0.n<=x.lo/\x.lo<=x.hi/\x.hi<=s.n/\x.wr=[]/\∀ f,f∈x.rd->f<x.lo/\(SupL A0 L (nth 0 (zdq ops []) k) f\/Own β f)
  apart:∀ (k m:Nat) (x y:Lg),k<m->L[k]?=some x->L[m]?=some y->x.hi<=y.lo
  own:∀ f,Own β f->f<s0.n
  base:∀ f,A0 f->f<s0.n
  calm:zj4 A0 β s0 A0 s
  lim:s0.lim<=s0.n
theorem TRel.more (hT:TRel GL A β S s) (A1:Nat->Prop) (h1:∀ f,A f->A1 f) (h2:∀ f,A1 f->f<s.n) (h3:∀ f,A1 f->¬ Own β f):TRel GL A1 β S s :=
  ⟨hT.inr,hT.inv,h2,fun f hf=>⟨(hT.dis f hf).1,fun hh=>h3 f hh hf⟩,hT.inj,hT.next,fun b z N l hb=>(hT.cells b z N l hb).mono h1 (fun _ _=>rfl) (ip _) rfl fun _ _ _ _=>rfl,
    fun b l hb=>(hT.maps b l hb).mono h1 (fun _ _=>rfl) (ip _) rfl fun _ _=>rfl,fun x hx=>⟨h1 _ (hT.glob x hx).1,(hT.glob x hx).2⟩⟩
theorem TRel.inner (hT:TRel GL A β S s):TRel GL A β S s.inner:=⟨hT.inr,⟨hT.inv.none,hT.inv.vers,dz _⟩,hT.alt,hT.dis,hT.inj,hT.next,hT.cells,hT.maps,hT.glob⟩
theorem TRel.outer (hT:TRel GL A β S s') (hl:s.lim<=s'.n):TRel GL A β S (s.outer s'):=⟨hT.inr,⟨hT.inv.none,hT.inv.vers,hl⟩,hT.alt,hT.dis,hT.inj,hT.next,hT.cells,hT.maps,hT.glob⟩
theorem zj4.trans (hl:s.lim<=s.n) (k1:zj4 A β s A s') (k2:zj4 A β s' A s2):zj4 A β s A s2:=by
  refine ⟨k1.can.trans k2.can,fun _ h=>h,fun _ h=>.inl h,fun f hf=>?_,fun x hx=>?_,fun x hx=>k1.wr x (k2.wr x hx)⟩
  . rw [k2.keep f (ei hf k1.can.n)];exact k1.keep f hf
  . rcases k2.rd x hx with q|⟨q,q2⟩
    . exact k1.rd x q
    . rw [k1.can.lim] at q;exact .inr ⟨q,q2⟩
theorem zq6.next {k0:Nat} {ops:List Oper} (hd:ziu k0 ops=true) {L:List Lg} {fr:Fr} {o:Oper} (I:zq6 GL ops A0 β S s0 N L h fr s) (ho:ops[L.length]?=some o) (hdst:∀ t,o.dst=some t->t<N) {t:T} {v:Value} {s1:CS}
    (k1:TRel GL A' β S s1) (k2:VT A' β (zaa s1.obj) t v) (k3:zj4 (SupL A0 L (nth 0 (zdq ops []) L.length)) β s.inner A' s1) :
    zq6 GL ops A0 β S s0 N (L++[⟨s1.rd,s1.wr,s.n,s1.n⟩]) (putT h o.dst t) (putC fr o.dst v) (s.outer s1):=by
  have hsn:s.n<=s1.n:=k3.can.n;have hln:L.length<ops.length:=(d9.1 ho).1;have h0n:s0.n<=s.n:=I.calm.can.n
  have hsup:∀ f D,SupL A0 L D f->f<s.n:=fun f D hf=>by
    rcases hf with q|⟨m,x,_,q2,_,q4⟩
    . have:=I.base f q;omega
    . have:=(I.log m x q2).2.2.1;omega
  have hA':∀ f,A' f->SupL A0 (L++[⟨s1.rd,s1.wr,s.n,s1.n⟩]) (nth 0 (zdq ops []) L.length ||| 2 ^ L.length) f:=fun f hf=>by
    rcases k3.new f hf with q|q
    . refine SupL.more (fun m hm hb=>?_) q;rw [mq,hb];rfl
    . refine .inr ⟨L.length,⟨s1.rd,s1.wr,s.n,s1.n⟩,?_,by simp,q,k1.alt f hf⟩;rw [mq,Nat.testBit_two_pow_self];simp
  have hobj:∀ f,f<s.n->zaa s1.obj f=zaa s.obj f:=fun f hf=>k3.keep f hf
  have hwr:s1.wr=[]:=by
    rw [List.eq_nil_iff_forall_not_mem];intro x hx;have:=k3.wr x hx;simp [pn] at this
  have hcal:zj4 A0 β s A0 (s.outer s1):=by
    refine ⟨zlc I.rel.inv k3.can,fun _ h=>h,fun _ h=>.inl h,hobj,fun x hx=>?_,fun x hx=>?_⟩
    . rcases znz (l:=s1.rd) rfl x hx with q|⟨q,q2⟩
      . exact .inl q
      . refine .inr ⟨q2,?_⟩;have hxn:x<s0.n:=by have h1:=I.calm.can.lim;have h2:=I.lim;rw [h1] at q2;omega
        rcases k3.rd x q with q3|⟨_,q3⟩
        . simp [pn] at q3
        . rcases q3 with (q3|⟨m,y,_,q5,q6,_⟩)|q3
          . exact .inl q3
          . have:=(I.log m y q5).1;omega
          . exact .inr q3
    . rcases znz (l:=s1.wr) rfl x hx with q|⟨q,_⟩
      . exact q
      . rw [hwr] at q;simp at q
  have hrel:TRel GL A0 β S (s.outer s1):=hcal.rel I.rel k1.inr ⟨k1.inv.none,k1.inv.vers,by have:=I.rel.inv.lim;show s.lim<=s1.n;omega⟩ fun f hf=>by have:=I.rel.alt f hf;show f<s1.n;omega
  refine ⟨?_,I.le,hrel,fun t'=>?_,fun k x hx=>?_,fun k m x y hkm hx hy=>?_,I.own,I.base,?_,I.lim⟩
  . cases hd2:o.dst with
    |none=>exact I.nt
    |some d =>
      show (fr.put d v).nt=N;unfold Fr.put;rw [zb0];split<;>exact I.nt
  . by_cases ht':o.dst=some t'
    . rw [ht'];refine ⟨nth 0 (zdq ops []) L.length ||| 2 ^ L.length,?_,fun j o' hj ho' hn m hm hb=>?_⟩
      . show VT _ _ _ (tupd h t' t t') ((fr.put t' v).get t');rw [zjn,Fr.get_put_same v (by rw [I.nt];exact hdst _ ht') (by rw [I.nt];exact I.le)];exact k2.mono hA' (fun _ _=>rfl) (ip _)
      . rw [er,jh] at hj hm;have hdep:=ybl hd (show L.length<j by omega) ho ho' ht' hn;rw [mq,Bool.or_eq_true] at hb;rcases hb with hb|hb
        . exact z35 hd (d9.1 ho').1 hln hdep hb
        . rw [Nat.testBit_two_pow] at hb;have:L.length=m:=by simpa using hb
          rw [<- this];exact hdep
    . obtain ⟨D,d1,d2⟩:=I.slot t';refine ⟨D &&& (2 ^ L.length - 1),?_,fun j o' hj ho' hn m hm hb=>?_⟩
      . have e1:putT h o.dst t t'=h t':=by
          cases hd2:o.dst with
          |none=>rfl
          |some d=>exact zo1 _ _ _ _ fun hh=>ht' (by rw [hd2,hh])
        have e2:(putC fr o.dst v).get t'=fr.get t':=by
          cases hd2:o.dst with
          |none=>rfl
          |some d=>exact Fr.get_put_other v (by rw [I.nt];exact I.le) fun hh=>ht' (by rw [hd2,hh])
        rw [e1,e2];refine d1.mono (fun f hf=>SupL.more (fun m hm hb=>?_) hf) (fun f hf=>hobj f (hsup f D hf)) (ip _);rw [jf,hb,i7];simp [hm]
      . rw [er,jh] at hj;rw [jf,dr,i7] at hb;exact d2 j o' (by omega) ho' hn m (of_decide_eq_true hb.2) hb.1
  . by_cases hk:k<L.length
    . rw [eu hk] at hx;obtain ⟨l1,l2,l3,l4,l5⟩:=I.log k x hx;exact ⟨l1,l2,by show x.hi<=s1.n;omega,l4,fun f hf=>⟨(l5 f hf).1,(l5 f hf).2.imp (fun q=>SupL.more (fun _ _ hb=>hb) q) id⟩⟩
    . have hk2:k=L.length:=by
        have:=(d9.1 hx).1;rw [er,jh] at this;omega
      subst hk2;simp only [fq (dz _),po,fl,dp] at hx;subst hx;refine ⟨h0n,hsn,dz _,hwr,fun f hf=>?_⟩;rcases k3.rd f hf with q|⟨q,q2⟩
      . simp [pn] at q
      . exact ⟨q,q2.imp (fun q3=>SupL.more (fun _ _ hb=>hb) q3) id⟩
  . by_cases hm:m<L.length
    . rw [eu (by omega)] at hx;rw [eu hm] at hy;exact I.apart k m x y hkm hx hy
    . have hm2:m=L.length:=by
        have:=(d9.1 hy).1;rw [er,jh] at this;omega
      subst hm2;rw [eu hkm] at hx;simp only [fq (dz _),po,fl,dp] at hy;subst hy;exact (I.log k x hx).2.2.1
  . exact I.calm.trans I.lim hcal
theorem z0h {ops:List Oper} {o:Oper} {x:Nat} (hx:Operand.tmp x∈o.op.operands.toList):x∈zfh ops o:=by
  unfold zfh;refine List.mem_append.2 (.inl ?_);rw [List.mem_filterMap];exact ⟨.tmp x,hx,rfl⟩
theorem z5x {ops:List Oper} {o:Oper} {j d:Nat} {w:Bool} (hg:o.guard=some (j,w)) (hd:zpg ops j=some d):d∈zfh ops o:=by
  unfold zfh;refine List.mem_append.2 (.inr ?_);rw [hg];simp only [hd];exact List.mem_singleton.2 rfl
theorem z78 (hE:zcv P Γ) {k0:Nat} {ops:List Oper} (hd:ziu k0 ops=true):∀ {l:List Oper} {L:List Lg} {h h':Nat->T} {fr:Fr} {s:CS} {outs:List T} {ob:Prop},zq6 GL ops A0 β S s0 N L h fr s->(∀ (j:Nat) (o:Oper),l[j]?=some o->ops[L.length+j]?=some o)->zfa N l=true->runP P Γ GL ops l h S outs=some (ob,h')->ob ->
    ∃ M fr' s',drawC P Γ (zem P Γ) ops l fr s=some (M,fr',s')/\zq6 GL ops A0 β S s0 N (L++M) h' fr' s'/\M.length=l.length
  |[],L,h,h',fr,s,outs,ob,I,hl,hdo,hr,hob=>by
    simp only [runP,dp,du] at hr;obtain ⟨rfl,rfl⟩:=hr;exact ⟨[],fr,s,rfl,by rw [fj];exact I,rfl⟩
  |o :: l,L,h,h',fr,s,outs,ob,I,hl,hdo,hr,hob=>by
    have hd':zfa N l=true/\∀ t,o.dst=some t->t<N:=by
      unfold zfa at hdo ⊢;rw [ii,dr] at hdo;refine ⟨hdo.2,fun t ht=>?_⟩;have:=hdo.1;rw [ht] at this;exact zac.1 this
    have ho:ops[L.length]?=some o:=by have:=hl 0 o rfl;simpa using this
    -- what the operation may lean on
    have hrel:TRel GL (SupL A0 L (nth 0 (zdq ops []) L.length)) β S s.inner:=by
      refine TRel.inner (I.rel.more _ (fun f hf=>.inl hf) (fun f hf=>?_) (fun f hf ho=>?_))
      . rcases hf with q|⟨m,x,_,q2,_,q4⟩
        . exact I.rel.alt f q
        . have:=(I.log m x q2).2.2.1;omega
      . rcases hf with q|⟨m,x,_,q2,q3,q4⟩
        . exact (I.rel.dis f ho).2 q
        . have:=(I.log m x q2).1;have:=I.own f ho;omega
    -- the slots that it names
    let ho':Nat->T:=fun t=>if t∈zfh ops o then h t else .junk
    have hin:∀ t,t∈zfh ops o->ho' t=h t:=fun t ht=>zAc ht
    have hF:FrOk (SupL A0 L (nth 0 (zdq ops []) L.length)) β (zaa s.inner.obj) N ho' fr:=⟨I.nt,I.le,fun t=>by
      by_cases ht:t∈zfh ops o
      . rw [hin t ht];obtain ⟨D,d1,d2⟩:=I.slot t;exact d1.mono (fun f hf=>SupL.sub (fun m hm hb=>d2 L.length o (dz _) ho ht m hm hb) hf) (fun _ _=>rfl) (ip _)
      . rw [show ho' t=.junk from zAd ht]
        exact .junk _⟩
    have hev:∀ x,x∈o.op.operands.toList->zd4 GL ho' x=zd4 GL h x:=fun x hx=>by
      cases x with
      |tmp t=>exact hin t (z0h hx)
      |_=>rfl
    have hgd:zij ops ho' o.guard=zij ops h o.guard:=by
      cases hg:o.guard with
      |none=>rfl
      |some p =>
        obtain ⟨j,w⟩:=p;unfold zij;simp only
        cases hdd:zpg ops j with
        |none=>rfl
        |some d=>simp only [hin d (z5x hg hdd)]
    -- the rest behind a step that is done
    have go:∀ {t:T} {v:Value} {s1:CS} {A':Nat->Prop} {outs':List T} {ob':Prop},TRel GL A' β S s1->VT A' β (zaa s1.obj) t v->zj4 (SupL A0 L (nth 0 (zdq ops []) L.length)) β s.inner A' s1->zcj P Γ (zem P Γ) ops o fr s.inner=some (putC fr o.dst v,s1)->runP P Γ GL ops l (putT h o.dst t) S outs'=some (ob',h')->ob'->∃ M fr' s',drawC P Γ (zem P Γ) ops (o :: l) fr s=some (M,fr',s')/\zq6 GL ops A0 β S s0 N (L++M) h' fr' s'/\M.length=(o :: l).length:=by
      intro t v s1 A' outs' ob' k1 k2 k3 hst hrun hob';have I2:=I.next hd ho hd'.2 k1 k2 k3
      obtain ⟨M,fr',s',m1,m2,m3⟩:=z78 hE hd I2 (fun j o' hj=>by
        have:=hl (j+1) o' (by simpa using hj);rw [er,jh];rw [show L.length+1+j=L.length+(j+1) by omega]
        exact this) hd'.1 hrun hob'
      refine ⟨⟨s1.rd,s1.wr,s.n,s1.n⟩ :: M,fr',s',?_,?_,by simp [m3]⟩
      . rw [drawC,hst];simp only;rw [m1]
      . rw [fe] at m2;exact m2
    unfold runP at hr;split at hr
    . simp at hr
    . rename_i hg;rw [<- hgd] at hg;have hw:=zii hF hg;refine go hrel VT.undf ⟨Can.refl _,fun _ h=>h,fun _ h=>.inl h,fun _ _=>rfl,fun _ h=>.inl h,fun _ h=>h⟩ ?_ hr hob;unfold zcj;rw [hw,cond_false]
    . rename_i hg;rw [<- hgd] at hg;have hw:=zii hF hg;split at hr
      . rename_i f args tys hop;split at hr
        . rename_i r outs';split at hr
          . rename_i p hp;unfold z6w at hp;split at hp
            . rename_i k first cap hf
              simp only [dp] at hp;subst hp
              cases hrun:runP P Γ GL ops l (putT h o.dst r) S outs' with
              |none=>rw [hrun] at hr;simp [andP] at hr
              |some q =>
                obtain ⟨q1,q2⟩:=q;rw [hrun] at hr;simp only [andP,dp,du] at hr;obtain ⟨rfl,rfl⟩:=hr;have hfv:=hF.eval hrel f;rw [hev f (by rw [hop];simp [Op.operands,Call.operands]),hf] at hfv;generalize e1:zgf fr f=vf at hfv
                cases hfv with
                |fn h1 h2 =>
                  rename_i va vc;have hargs:=zwi (hF.eval hrel) args.toList;have hargs':args.toList.map (zd4 GL ho')=args.toList.map (zd4 GL h):=zu3 fun x hx=>hev x (by rw [hop];simp [Op.operands,Call.operands];right;simpa using hx);rw [hargs'] at hargs;obtain ⟨v,s1,A',c1,c2,c3,c4⟩:=hob.1 _ β s.inner _ hrel ((h1.append hargs).append h2);refine go c2 c3 c4 ?_ hrun hob.2;unfold zcj;rw [hw,cond_true]
                  have:cop P Γ (zem P Γ) (zgf fr) o s.inner=some (v,s1):=by
                    unfold cop;simp only [hop,e1];unfold zme;exact c1
                  rw [this]
            . simp at hp
          . simp at hr
        . simp at hr
      . split at hr
        . rename_i t hst;have hst':zfg P Γ (zd4 GL ho') o S=some t:=by rw [z5f hev];exact hst
          obtain ⟨v,s1,A',c1,c2,c3,c4⟩:=z68 (call:=zem P Γ) hE hrel (hF.eval hrel) hst';refine go c2 c3 c4 ?_ hr hob;unfold zcj;rw [hw,cond_true,c1]
        . simp at hr
theorem Stp.outer (hI:CInv s) (k:Stp A β s.inner A' β' s'):Stp A β s A' β' (s.outer s'):=by
  refine ⟨zlc hI k.can,k.sub,k.new,k.own,k.keep,k.bx,fun x hx=>?_,fun x hx=>?_⟩
  . rcases znz (l:=s'.rd) rfl x hx with q|⟨q,q2⟩
    . exact .inl q
    . rcases k.rd x q with q3|⟨_,q3⟩
      . simp [pn] at q3
      . exact .inr ⟨q2,q3⟩
  . rcases znz (l:=s'.wr) rfl x hx with q|⟨q,q2⟩
    . exact .inl q
    . rcases k.wr x q with q3|⟨_,q3⟩
      . simp [pn] at q3
      . exact .inr ⟨q2,q3⟩
theorem z0c (hE:zcv P Γ) {own:List Nat} {ops:List Oper} {N:Nat}:∀ {l:List Oper} {h h':Nat->T} {S S':TS} {outs:List (T×TS)} {ob:Prop} {A:Nat->Prop} {β:Bx} {fr:Fr} {s:CS},zfa N l=true->FrOk A β (zaa s.obj) N h fr->TRel GL A β S s->runT P Γ GL own ops l h S outs=some (ob,h',S')->ob ->
    ∃ M fr' s',drawC P Γ (zem P Γ) ops l fr s=some (M,fr',s')/\Left GL A β s N fr' s' h' S'
  |[],h,h',S,S',outs,ob,A,β,fr,s,hd,hF,hT,hr,hob=>by
    simp only [runT,dp,du] at hr;obtain ⟨rfl,rfl,rfl⟩:=hr;exact ⟨[],fr,s,rfl,A,β,hF,hT,Stp.refl⟩
  |o :: l,h,h',S,S',outs,ob,A,β,fr,s,hd,hF,hT,hr,hob=>by
    have hd':zfa N l=true/\∀ t,o.dst=some t->t<N:=by
      unfold zfa at hd ⊢;rw [ii,dr] at hd;refine ⟨hd.2,fun t ht=>?_⟩;have:=hd.1;rw [ht] at this;exact zac.1 this
    have hTi:=hT.inner
    have go:∀ {t:T} {S1:TS} {r:Option (Value×CS)} {l':List (T×TS)} {ob':Prop},Ok GL A β s.inner r t S1->(cop P Γ (zem P Γ) (zgf fr) o s.inner=r)->zc4 ops fr o=true->runT P Γ GL own ops l (putT h o.dst t) S1 l'=some (ob',h',S')->ob'->∃ M fr' s',drawC P Γ (zem P Γ) ops (o :: l) fr s=some (M,fr',s')/\Left GL A β s N fr' s' h' S':=by
      rintro t S1 r l' ob' ⟨v,s1,A1,β1,rfl,k1,k2,k3⟩ hc hw hrun hob';have hF1:FrOk A1 β1 (zaa s1.obj) N h fr:=hF.mono k3.sub (Stp.old (s:=s.inner) hTi k3) k3.bx;have hS:Stp A β s A1 β1 (s.outer s1):=k3.outer hT.inv;obtain ⟨M,fr',s',e1,e2⟩:=z0c hE hd'.1 (s:=s.outer s1) (hF1.put hd'.2 k2) (k1.outer (Nat.le_trans hT.le k3.can.n)) hrun hob';refine ⟨⟨s1.rd,s1.wr,s.n,s1.n⟩ :: M,fr',s',?_,mb (h':=h) (fr':=fr) hT.le hS e2⟩;rw [drawC]
      have:zcj P Γ (zem P Γ) ops o fr s.inner=some (putC fr o.dst v,s1):=by
        unfold zcj;rw [hw,cond_true,hc]
      rw [this];simp only;rw [e1]
    unfold runT at hr;split at hr
    . simp at hr
    . rename_i hg;have hw:=zii hF hg;have hS:Stp A β s A β (s.outer s.inner):=Stp.outer hT.inv Stp.refl;obtain ⟨M,fr',s',e1,e2⟩:=z0c hE hd'.1 (s:=s.outer s.inner) (hF.put hd'.2 VT.undf) (hTi.outer hT.le) hr hob;refine ⟨⟨[],[],s.n,s.n⟩ :: M,fr',s',?_,mb (h':=h) (fr':=fr) hT.le hS e2⟩;rw [drawC]
      have:zcj P Γ (zem P Γ) ops o fr s.inner=some (putC fr o.dst undef,s.inner):=by
        unfold zcj;rw [hw,cond_false]
      rw [this];simp only;rw [e1];rfl
    . rename_i hg;have hw:=zii hF hg;split at hr
      . rename_i f args tys ho;split at hr
        . rename_i r outs';split at hr
          . rename_i p hp;unfold z1b at hp;split at hp
            . rename_i k first cap hf
              simp only [dp] at hp;subst hp
              cases hrun:runT P Γ GL own ops l (putT h o.dst r.1) r.2 outs' with
              |none=>rw [hrun] at hr;simp [andT] at hr
              |some q =>
                obtain ⟨q1,q2,q3⟩:=q;rw [hrun] at hr;simp only [andT,dp,du] at hr;obtain ⟨rfl,rfl,rfl⟩:=hr;have hfv:=hF.eval hT f;rw [hf] at hfv;generalize e1:zgf fr f=vf at hfv
                cases hfv with
                |fn h1 h2 =>
                  rename_i va vc;have hargs:=zwi (hF.eval hT) args.toList;have hcall:=hob.1 A β s.inner _ hTi ((h1.append hargs).append h2);refine go hcall ?_ hw hrun hob.2;unfold cop;simp only [ho,e1];unfold zme;rfl
            . simp at hp
          . simp at hr
        . simp at hr
      . split at hr
        . rename_i t S1 hst;exact go (zzv hE hTi (hF.eval hT) hst) rfl hw hr hob
        . simp at hr
theorem zh2 {x y:Lg} (h1:x.rd=[]) (h2:x.wr=[]) (h3:x.lo=x.hi):clash x y=false:=by
  obtain ⟨rx,wx,lo,hi⟩:=x;obtain ⟨ry,wy,lo',hi'⟩:=y;simp only at h1 h2 h3;subst h1;subst h2;subst h3;exact zgv (fun f hf=>by simp at hf) (fun f hf=>by simp at hf) (fun f _=>by omega) (fun f _=>by omega)
theorem zg4 {x y:Lg} (h1:y.rd=[]) (h2:y.wr=[]):clash x y=false:=by
  obtain ⟨rx,wx,lo,hi⟩:=x;obtain ⟨ry,wy,lo',hi'⟩:=y;simp only at h1 h2;subst h1;subst h2;exact zgv (fun f _=>by simp) (fun f _=>by simp) (fun f hf=>by simp at hf) (fun f hf=>by simp at hf)
theorem TW.draw (hE:zcv P Γ) {id:Nat} {ops:Array Oper} {Q:Exit->(Nat->T)->TS->Prop} (k:Nat) (outsP:List T) (own:List Nat) (outs:List (T×TS)) {h1:Nat->T} {ob1 ob2:Prop} (hd:zfa N ops.toList=true) (hok:ziu k ops.toList=true)
    (hp:runP P Γ GL ops.toList (ops.toList.take k) h S outsP=some (ob1,h1)) (hob1:ob1) (hr:runT P Γ GL own ops.toList (ops.toList.drop k) h1 S outs=some (ob2,h',S')) (hob2:ob2) (hq:Q .normal h' S'):TW P Γ GL N (.region id ops true) h S Q:=fun A β fr s hF hT=>by
  have hsplit:ops.toList=ops.toList.take k++ops.toList.drop k:=(iq k _).symm
  have hdd:zfa N (ops.toList.take k)=true/\zfa N (ops.toList.drop k)=true:=by
    unfold zfa at hd ⊢;rw [hsplit,List.all_append,dr] at hd;exact hd
  have I0:zq6 GL ops.toList A β S s N [] h fr s:=by
    refine ⟨hF.nt,hF.le,hT,fun t=>⟨0,(hF.slot t).mono (fun f hf=>.inl hf) (fun _ _=>rfl) (ip _),fun j o _ _ _ m hm=>by simp at hm⟩,fun k x hx=>by simp at hx,fun k m x y _ hx=>by simp at hx,fun f hf=>(hT.dis f hf).1,hT.alt,?_,hT.le⟩;exact ⟨Can.refl _,fun _ h=>h,fun _ h=>.inl h,fun _ _=>rfl,fun _ h=>.inl h,fun _ h=>h⟩
  obtain ⟨M1,fr1,s1,d1,I1,m1⟩:=z78 hE hok I0 (fun j o hj=>by
    rw [gh,fz];rw [List.getElem?_take] at hj;split at hj
    . exact hj
    . simp at hj) hdd.1 hp hob1
  rw [ff] at I1
  -- behind the first part all may lean on all
  let D:Nat:=2 ^ M1.length - 1
  have hDall:∀ m,m<M1.length->ft D m=true:=fun m hm=>by
    show ft (2 ^ M1.length - 1) m=true;rw [i7];exact zAa hm
  have hT1:TRel GL (SupL A M1 D) β S s1:=by
    refine I1.rel.more _ (fun f hf=>.inl hf) (fun f hf=>?_) (fun f hf ho=>?_)
    . rcases hf with q|⟨m,x,_,q2,_,q4⟩
      . exact I1.rel.alt f q
      . have:=(I1.log m x q2).2.2.1;omega
    . rcases hf with q|⟨m,x,_,q2,q3,q4⟩
      . exact (I1.rel.dis f ho).2 q
      . have:=(I1.log m x q2).1;have:=I1.own f ho;omega
  have hF1:FrOk (SupL A M1 D) β (zaa s1.obj) N h1 fr1:=⟨I1.nt,I1.le,fun t=>by
    obtain ⟨E,e1,_⟩:=I1.slot t
    exact e1.mono (fun f hf=>SupL.sub (fun m hm _=>hDall m hm) hf) (fun _ _=>rfl) (ip _)⟩
  have hS1:Stp A β s (SupL A M1 D) β s1:=by
    refine ⟨I1.calm.can,fun f hf=>.inl hf,fun f hf=>?_,fun f hf=>.inl hf,fun f hf _=>I1.calm.keep f hf,ip _,I1.calm.rd,fun x hx=>.inl (I1.calm.wr x hx)⟩;rcases hf with q|⟨m,x,_,q2,q3,_⟩
    . exact .inl q
    . have:=(I1.log m x q2).1;exact .inr (.inl (by omega))
  obtain ⟨M2,fr2,s2,d2,L2⟩:=z0c hE hdd.2 hF1 hT1 hr hob2;have hdraw:=zkb d1 d2;rw [<- hsplit] at hdraw;obtain ⟨f1,f2⟩:=ztn hdraw;refine W.draw hdraw ?_ ⟨h',S',mb (h':=h) (fr':=fr) hT.le hS1 L2,hq⟩;refine z09 rfl (zn8 fun i j x y hij _ hx hy=>?_);simp only [ff] at hx hy;have hjl:j<ops.toList.length:=by rw [<- f1];exact (d9.1 hy).1
  have ho1:ops.toList[i]?=some (ops.toList[i]'(by omega)):=dv _;have ho2:ops.toList[j]?=some (ops.toList[j]'hjl):=dv _;by_cases hkj:k<=j
  . rcases z6l hok hij hkj ho1 ho2 with q|q|q
    . exact .inl q
    . obtain ⟨a,b,c⟩:=(f2 i _ x ho1 hx).1 q;exact .inr (zh2 a b c)
    . obtain ⟨a,b⟩:=(f2 j _ y ho2 hy).2 q;exact .inr (zg4 a b)
  . have hjM:j<M1.length:=by rw [m1,fi];omega
    rw [eu (by omega)] at hx;rw [eu hjM] at hy;by_cases hbit:ft (nth 0 (zdq ops.toList []) j) i=true
    . exact .inl hbit
    . right;obtain ⟨x1,x2,x3,x4,x5⟩:=I1.log i x hx;obtain ⟨y1,y2,y3,y4,y5⟩:=I1.log j y hy;obtain ⟨rx,wx,lo,hi⟩:=x;obtain ⟨ry,wy,lo',hi'⟩:=y;simp only at x1 x2 x3 x4 x5 y1 y2 y3 y4 y5;subst x4;subst y4;refine zgv (fun f hf=>by simp at hf) (fun f _=>by simp) (fun f hf=>?_) (fun f hf=>by simp at hf);obtain ⟨g1,g2⟩:=y5 f hf;rcases g2 with (g2|⟨m,z,g3,g4,g5,g6⟩)|g2
      . have:=I1.base f g2;omega
      . by_cases hmi:m=i
        . subst hmi;exact absurd g3 hbit
        . by_cases hlt:m<i
          . have:=I1.apart m i z _ hlt g4 hx;simp only at this;omega
          . have:=I1.apart i m _ z (by omega) hx g4;simp only at this;omega
      . have:=I1.own f g2;omega
end
section
variable {GL:List (Nat×List Value)} {P:ep} {Γ:Env} {own:List Nat} {ops l:List Oper} {h:Nat->T} {S:TS} {outs:List (T×TS)} {outsP:List T} {d:Option Tmp} {ty:ed} {pos:String} {e:Array Edge} {g:Option (Nat×Bool)}
noncomputable def yh2 {α:Type} (r:Option (T×TS)) (k:T->TS->Option α):Option α:=match r with
  |some (t,S)=>k t S
  |none=>none
noncomputable def zoc {α:Type} (b:Option Bool) (off on:Unit->Option α):Option α:=match b with
  |some true=>on ()
  |some false=>off ()
  |none=>none
theorem z1p {α:Type} (t:T) (S:TS) (k:T->TS->Option α):yh2 (some (t,S)) k=k t S:=d6 rfl rfl
theorem yfv {α:Type} (a b:Unit->Option α):zoc (some true) a b=b ():=d6 rfl rfl
theorem z85 {α:Type} (a b:Unit->Option α):zoc (some false) a b=a ():=d6 rfl rfl
noncomputable def zpx (ops:List Oper) (h:Nat->T) (j:Nat):T:=match zpg ops j with|some t=>h t|none=>.junk
noncomputable def zpo (t:T) (w:Bool):Option Bool:=match t with|.bool b=>some (b == w)|.tup _=>some false|_=>none
theorem ycc {l:List T} {w:Bool}:zpo (.tup l) w=some false:=d6 rfl rfl
theorem zjk {j:Nat} {w:Bool}:zij ops h (some (j,w))=zpo (zpx ops h j) w:=by
  unfold zij zpx;simp only
  cases zpg ops j with
  |none=>rfl
  |some t=>simp only;cases h t<;>rfl
theorem yca:zpo (.bool true) true=some true:=d6 rfl rfl
theorem ycb:zpo (.bool true) false=some false:=d6 rfl rfl
theorem ycd:zpo (.bool false) true=some false:=d6 rfl rfl
theorem yce:zpo (.bool false) false=some true:=d6 rfl rfl
theorem zxi {t:Tmp} {op:Op}:zpx (⟨some t,op,ty,pos,e,g⟩ :: l) h 0=h t:=d6 rfl rfl
theorem zxj {o:Oper} {n:Nat}:zpx (o :: l) h (n+1)=zpx l h n:=by
  unfold zpx zpg;rw [ji]
theorem z7u:runT P Γ GL own ops [] h S outs=some (True,h,S):=d6 rfl rfl
theorem z7w:runP P Γ GL ops [] h S outsP=some (True,h):=d6 rfl rfl
def zb6:Op->Bool
  |.call ⟨.value _,_,_⟩=>true
  |_=>false
noncomputable def yik (P:ep) (Γ:Env) (GL:List (Nat×List Value)) (own:List Nat) (ops l:List Oper) (outs:List (T×TS)) (h:Nat->T) (d:Option Tmp) (t:T) (S:TS):Option (Prop×(Nat->T)×TS):=runT P Γ GL own ops l (putT h d t) S outs
theorem yeu {t:T}:yik P Γ GL own ops l outs h d t S=runT P Γ GL own ops l (putT h d t) S outs:=d6 rfl rfl
noncomputable def offT (P:ep) (Γ:Env) (GL:List (Nat×List Value)) (own:List Nat) (ops l:List Oper) (outs:List (T×TS)) (h:Nat->T) (d:Option Tmp) (S:TS) (_:Unit):Option (Prop×(Nat->T)×TS):=runT P Γ GL own ops l (putT h d (.tup [])) S outs
theorem ykw {u:Unit}:offT P Γ GL own ops l outs h d S u=runT P Γ GL own ops l (putT h d (.tup [])) S outs:=d6 rfl rfl
noncomputable def yih (P:ep) (Γ:Env) (GL:List (Nat×List Value)) (own:List Nat) (ops l:List Oper) (outs:List (T×TS)) (h:Nat->T) (S:TS) (o:Oper) (_:Unit):Option (Prop×(Nat->T)×TS):=yh2 (zen P Γ own (zd4 GL h) o S) (yik P Γ GL own ops l outs h o.dst)
theorem yeq {u:Unit} {op:Op}:yih P Γ GL own ops l outs h S ⟨d,op,ty,pos,e,g⟩ u=yh2 (zen P Γ own (zd4 GL h) ⟨d,op,ty,pos,e,g⟩ S) (yik P Γ GL own ops l outs h d):=d6 rfl rfl
theorem z7v {op:Op} (hc:zb6 op=false):runT P Γ GL own ops (⟨d,op,ty,pos,e,g⟩ :: l) h S outs=zoc (zij ops h g) (offT P Γ GL own ops l outs h d S) (yih P Γ GL own ops l outs h S ⟨d,op,ty,pos,e,g⟩):=by
  rw [runT];simp only
  cases hg:zij ops h g with
  |none=>rfl
  |some b =>
    cases b with
    |false=>rfl
    |true =>
      simp only [zoc,yih]
      cases hs:zen P Γ own (zd4 GL h) ⟨d,op,ty,pos,e,g⟩ S with
      |none =>
        cases op with
        |call c =>
          obtain ⟨cal,args,tys⟩:=c
          cases cal with
          |value f=>simp [zb6] at hc
          |_=>rfl
        |_=>rfl
      |some r =>
        cases op with
        |call c =>
          obtain ⟨cal,args,tys⟩:=c
          cases cal with
          |value f=>simp [zb6] at hc
          |_=>rfl
        |_=>rfl
theorem ydm {op:Op} (hc:zb6 op=false):runT P Γ GL own ops (⟨d,op,ty,pos,e,none⟩ :: l) h S outs=yh2 (zen P Γ own (zd4 GL h) ⟨d,op,ty,pos,e,none⟩ S) (yik P Γ GL own ops l outs h d):=by
  rw [z7v hc];rfl
theorem ydn {op:Op} {j:Nat} {w:Bool} (hc:zb6 op=false):runT P Γ GL own ops (⟨d,op,ty,pos,e,some (j,w)⟩ :: l) h S outs=zoc (zpo (zpx ops h j) w) (offT P Γ GL own ops l outs h d S) (yih P Γ GL own ops l outs h S ⟨d,op,ty,pos,e,some (j,w)⟩):=by
  rw [z7v hc,zjk]
noncomputable def yi1 (p:Option Prop) (k:Option (Prop×(Nat->T)×TS)):Option (Prop×(Nat->T)×TS):=match p,k with
  |some p,some (q,h,S)=>some (p/\q,h,S)
  |_,_=>none
theorem z3f {p q:Prop}:yi1 (some p) (some (q,h,S))=some (p/\q,h,S):=d6 rfl rfl
noncomputable def yjs (P:ep) (Γ:Env) (GL:List (Nat×List Value)) (own:List Nat) (ops l:List Oper) (outs:List (T×TS)) (h:Nat->T) (S:TS) (d:Option Tmp) (f:d8) (args:List d8) (r:T×TS) (_:Unit):Option (Prop×(Nat->T)×TS):=yi1 (z1b P Γ GL S (args.map (zd4 GL h)) (zd4 GL h f) r) (runT P Γ GL own ops l (putT h d r.1) r.2 outs)
theorem z95 {u:Unit} {f:d8} {args:List d8} {r:T×TS}:yjs P Γ GL own ops l outs h S d f args r u=yi1 (z1b P Γ GL S (args.map (zd4 GL h)) (zd4 GL h f) r) (runT P Γ GL own ops l (putT h d r.1) r.2 outs):=d6 rfl rfl
theorem zxu {f:d8} {args:Array d8} {tys:Array ed} {r:T×TS}:runT P Γ GL own ops (⟨d,.call ⟨.value f,args,tys⟩,ty,pos,e,g⟩ :: l) h S (r :: outs)=zoc (zij ops h g) (offT P Γ GL own ops l (r :: outs) h d S) (yjs P Γ GL own ops l outs h S d f args.toList r):=by
  rw [runT];simp only
  cases hg:zij ops h g with
  |none=>rfl
  |some b =>
    cases b with
    |false=>rfl
    |true =>
      simp only [zoc,yjs]
      cases z1b P Γ GL S (args.toList.map (zd4 GL h)) (zd4 GL h f) r with
      |none=>rfl
      |some p=>cases runT P Γ GL own ops l (putT h d r.1) r.2 outs<;>rfl
theorem z18 {f:d8} {args:Array d8} {tys:Array ed} {r:T×TS}:runT P Γ GL own ops (⟨d,.call ⟨.value f,args,tys⟩,ty,pos,e,none⟩ :: l) h S (r :: outs)=yi1 (z1b P Γ GL S (args.toList.map (zd4 GL h)) (zd4 GL h f) r) (runT P Γ GL own ops l (putT h d r.1) r.2 outs):=by
  rw [zxu];rfl
theorem zun {f:d8} {args:Array d8} {tys:Array ed} {r:T×TS} {j:Nat} {w:Bool}:runT P Γ GL own ops (⟨d,.call ⟨.value f,args,tys⟩,ty,pos,e,some (j,w)⟩ :: l) h S (r :: outs)=zoc (zpo (zpx ops h j) w) (offT P Γ GL own ops l (r :: outs) h d S) (yjs P Γ GL own ops l outs h S d f args.toList r):=by
  rw [zxu,zjk]
theorem zum {f:d8} {args:Array d8} {tys:Array ed} {j:Nat} {w:Bool}:runT P Γ GL own ops (⟨d,.call ⟨.value f,args,tys⟩,ty,pos,e,some (j,w)⟩ :: l) h S []=zoc (zpo (zpx ops h j) w) (offT P Γ GL own ops l [] h d S) (fun _=>none):=by
  rw [runT];simp only [zjk]
  cases zpo (zpx ops h j) w with
  |none=>rfl
  |some b=>cases b<;>rfl
theorem z91 {k:Nat} {first cap args:List T} {r:T×TS}:z1b P Γ GL S args (.fn k first cap) r=some (Call P Γ GL k (first++args++cap) S r.1 r.2):=d6 rfl rfl
noncomputable def yh3 {α:Type} (r:Option T) (k:T->Option α):Option α:=match r with
  |some t=>k t
  |none=>none
theorem zw9 {α:Type} (t:T) (k:T->Option α):yh3 (some t) k=k t:=d6 rfl rfl
noncomputable def yil (P:ep) (Γ:Env) (GL:List (Nat×List Value)) (ops l:List Oper) (outs:List T) (h:Nat->T) (d:Option Tmp) (S:TS) (t:T):Option (Prop×(Nat->T)):=runP P Γ GL ops l (putT h d t) S outs
theorem z8k {t:T}:yil P Γ GL ops l outsP h d S t=runP P Γ GL ops l (putT h d t) S outsP:=d6 rfl rfl
noncomputable def offP (P:ep) (Γ:Env) (GL:List (Nat×List Value)) (ops l:List Oper) (outs:List T) (h:Nat->T) (d:Option Tmp) (S:TS) (_:Unit):Option (Prop×(Nat->T)):=runP P Γ GL ops l (putT h d (.tup [])) S outs
theorem yer {u:Unit}:offP P Γ GL ops l outsP h d S u=runP P Γ GL ops l (putT h d (.tup [])) S outsP:=d6 rfl rfl
noncomputable def yii (P:ep) (Γ:Env) (GL:List (Nat×List Value)) (ops l:List Oper) (outs:List T) (h:Nat->T) (S:TS) (o:Oper) (_:Unit):Option (Prop×(Nat->T)):=yh3 (zfg P Γ (zd4 GL h) o S) (yil P Γ GL ops l outs h o.dst S)
theorem z8h {u:Unit} {op:Op}:yii P Γ GL ops l outsP h S ⟨d,op,ty,pos,e,g⟩ u=yh3 (zfg P Γ (zd4 GL h) ⟨d,op,ty,pos,e,g⟩ S) (yil P Γ GL ops l outsP h d S):=d6 rfl rfl
theorem z7x {op:Op} (hc:zb6 op=false):runP P Γ GL ops (⟨d,op,ty,pos,e,g⟩ :: l) h S outsP=zoc (zij ops h g) (offP P Γ GL ops l outsP h d S) (yii P Γ GL ops l outsP h S ⟨d,op,ty,pos,e,g⟩):=by
  rw [runP];simp only
  cases hg:zij ops h g with
  |none=>rfl
  |some b =>
    cases b with
    |false=>rfl
    |true =>
      simp only [zoc,yii]
      cases hs:zfg P Γ (zd4 GL h) ⟨d,op,ty,pos,e,g⟩ S with
      |none =>
        cases op with
        |call c =>
          obtain ⟨cal,args,tys⟩:=c
          cases cal with
          |value f=>simp [zb6] at hc
          |_=>rfl
        |_=>rfl
      |some r =>
        cases op with
        |call c =>
          obtain ⟨cal,args,tys⟩:=c
          cases cal with
          |value f=>simp [zb6] at hc
          |_=>rfl
        |_=>rfl
theorem ydo {op:Op} (hc:zb6 op=false):runP P Γ GL ops (⟨d,op,ty,pos,e,none⟩ :: l) h S outsP=yh3 (zfg P Γ (zd4 GL h) ⟨d,op,ty,pos,e,none⟩ S) (yil P Γ GL ops l outsP h d S):=by
  rw [z7x hc];rfl
theorem ydp {op:Op} {j:Nat} {w:Bool} (hc:zb6 op=false):runP P Γ GL ops (⟨d,op,ty,pos,e,some (j,w)⟩ :: l) h S outsP=zoc (zpo (zpx ops h j) w) (offP P Γ GL ops l outsP h d S) (yii P Γ GL ops l outsP h S ⟨d,op,ty,pos,e,some (j,w)⟩):=by
  rw [z7x hc,zjk]
noncomputable def yi2 (p:Option Prop) (k:Option (Prop×(Nat->T))):Option (Prop×(Nat->T)):=match p,k with
  |some p,some (q,h)=>some (p/\q,h)
  |_,_=>none
theorem zyb {p q:Prop}:yi2 (some p) (some (q,h))=some (p/\q,h):=d6 rfl rfl
noncomputable def z94 (P:ep) (Γ:Env) (GL:List (Nat×List Value)) (ops l:List Oper) (outs:List T) (h:Nat->T) (S:TS) (d:Option Tmp) (f:d8) (args:List d8) (r:T) (_:Unit):Option (Prop×(Nat->T)):=yi2 (z6w P Γ GL S (args.map (zd4 GL h)) (zd4 GL h f) r) (runP P Γ GL ops l (putT h d r) S outs)
theorem z4n {u:Unit} {f:d8} {args:List d8} {r:T}:z94 P Γ GL ops l outsP h S d f args r u=yi2 (z6w P Γ GL S (args.map (zd4 GL h)) (zd4 GL h f) r) (runP P Γ GL ops l (putT h d r) S outsP):=d6 rfl rfl
theorem zxv {f:d8} {args:Array d8} {tys:Array ed} {r:T}:runP P Γ GL ops (⟨d,.call ⟨.value f,args,tys⟩,ty,pos,e,g⟩ :: l) h S (r :: outsP)=zoc (zij ops h g) (offP P Γ GL ops l (r :: outsP) h d S) (z94 P Γ GL ops l outsP h S d f args.toList r):=by
  rw [runP];simp only
  cases hg:zij ops h g with
  |none=>rfl
  |some b =>
    cases b with
    |false=>rfl
    |true =>
      simp only [zoc,z94]
      cases z6w P Γ GL S (args.toList.map (zd4 GL h)) (zd4 GL h f) r with
      |none=>rfl
      |some p=>cases runP P Γ GL ops l (putT h d r) S outsP<;>rfl
theorem z19 {f:d8} {args:Array d8} {tys:Array ed} {r:T}:runP P Γ GL ops (⟨d,.call ⟨.value f,args,tys⟩,ty,pos,e,none⟩ :: l) h S (r :: outsP)=yi2 (z6w P Γ GL S (args.toList.map (zd4 GL h)) (zd4 GL h f) r) (runP P Γ GL ops l (putT h d r) S outsP):=by
  rw [zxv];rfl
theorem zup {f:d8} {args:Array d8} {tys:Array ed} {r:T} {j:Nat} {w:Bool}:runP P Γ GL ops (⟨d,.call ⟨.value f,args,tys⟩,ty,pos,e,some (j,w)⟩ :: l) h S (r :: outsP)=zoc (zpo (zpx ops h j) w) (offP P Γ GL ops l (r :: outsP) h d S) (z94 P Γ GL ops l outsP h S d f args.toList r):=by
  rw [zxv,zjk]
theorem zuo {f:d8} {args:Array d8} {tys:Array ed} {j:Nat} {w:Bool}:runP P Γ GL ops (⟨d,.call ⟨.value f,args,tys⟩,ty,pos,e,some (j,w)⟩ :: l) h S []=zoc (zpo (zpx ops h j) w) (offP P Γ GL ops l [] h d S) (fun _=>none):=by
  rw [runP];simp only [zjk]
  cases zpo (zpx ops h j) w with
  |none=>rfl
  |some b=>cases b<;>rfl
theorem z93 {k:Nat} {first cap args:List T} {r:T}:z6w P Γ GL S args (.fn k first cap) r=some (zaj P Γ GL k (first++args++cap) S r):=d6 rfl rfl
theorem zcf {t u:Nat} {v:T}:tupd h t v u=if u=t then v else h u:=d6 rfl rfl
theorem yei {t:Tmp} {v:T}:putT h (some t) v=tupd h t v:=d6 rfl rfl
theorem yej {v:T}:putT h none v=h:=d6 rfl rfl
theorem zy5 {t:Tmp}:zd4 GL h (.tmp t)=h t:=d6 rfl rfl
theorem zn6 {v:Value}:zd4 GL h (.const v)=znf v:=d6 rfl rfl
theorem ygv {f:Nat}:zd4 GL h (.func f)=.fn f [] []:=d6 rfl rfl
theorem z32 {f:Nat}:zd4 GL h (.global f)=yft GL f:=d6 rfl rfl
theorem ykz {k:fx} {n:Int}:znf (.int k n)=.int k n:=d6 rfl rfl
theorem zrt {b:Bool}:znf (.bool b)=.bool b:=d6 rfl rfl
theorem yky {b:ByteArray}:znf (.string b)=.str b:=d6 rfl rfl
theorem ye8:znf (.slice none 0 0)=.nils:=d6 rfl rfl
theorem ye9:znf (.pointer none)=.nilp:=d6 rfl rfl
theorem yfa:znf (.map none)=.nilm:=d6 rfl rfl
theorem yfb:znf .nilFunc=.nilf:=d6 rfl rfl
theorem zw3 {t:T}:zgl S (some t)=some (t,S):=d6 rfl rfl
theorem zw4:ztv (some S)=some (.junk,S):=d6 rfl rfl
-- which operations are calls
theorem yfo {x}:zb6 (.move x)=false:=d6 rfl rfl
theorem z3o {x}:zb6 (.assign x)=false:=d6 rfl rfl
theorem yfn {a b c}:zb6 (.pick a b c)=false:=d6 rfl rfl
theorem z82 {x}:zb6 (.alloc x)=false:=d6 rfl rfl
theorem yk4 {x y}:zb6 (.box x y)=false:=d6 rfl rfl
theorem z81 {x y}:zb6 (.build x y)=false:=d6 rfl rfl
theorem zqp {x y z}:zb6 (.buildSlice x y z)=false:=d6 rfl rfl
theorem yfp {x y}:zb6 (.load x y)=false:=d6 rfl rfl
theorem z8x {x y z}:zb6 (.store x y z)=false:=d6 rfl rfl
theorem zvq {x}:zb6 (.nilCheck x)=false:=d6 rfl rfl
theorem yk5 {x y z w v}:zb6 (.binOp x y z w v)=false:=d6 rfl rfl
theorem yp0 {x y z}:zb6 (.unOp x y z)=false:=d6 rfl rfl
theorem yfq {x y z}:zb6 (.convert x y z)=false:=d6 rfl rfl
theorem yk3 {x y}:zb6 (.sliceToArrayPointer x y)=false:=d6 rfl rfl
theorem zvr {x y z}:zb6 (.makeFunc x y z)=false:=d6 rfl rfl
theorem zdc {x y z w}:zb6 (.lookup x y z w)=false:=d6 rfl rfl
theorem zb8 {x y}:zb6 (.makeMap x y)=false:=d6 rfl rfl
theorem zbg {x y z w}:zb6 (.mapUpdate x y z w)=false:=d6 rfl rfl
theorem zdd {x y z w}:zb6 (.insert x y z w)=false:=d6 rfl rfl
theorem zsj {x y z}:zb6 (.makeSlice x y z)=false:=d6 rfl rfl
theorem z8y {x y z w v}:zb6 (.slice x y z w v)=false:=d6 rfl rfl
theorem zsl {x y z}:zb6 (.fieldAddr x y z)=false:=d6 rfl rfl
theorem z80 {x y z}:zb6 (.field x y z)=false:=d6 rfl rfl
theorem zsk {x y z}:zb6 (.indexAddr x y z)=false:=d6 rfl rfl
theorem z8z {x y z}:zb6 (.index x y z)=false:=d6 rfl rfl
theorem zyt {x y}:zb6 (.extract x y)=false:=d6 rfl rfl
theorem zyu {b x y}:zb6 (.call ⟨.builtin b,x,y⟩)=false:=d6 rfl rfl
variable {ρ:d8->T} {t t2:ed} {x y z:d8}
theorem ydd  : zen P Γ own ρ ⟨d,.move x,ty,pos,e,g⟩ S=zgl S (some (ρ x)):=d6 rfl rfl
theorem ydh  : zfg P Γ ρ ⟨d,.move x,ty,pos,e,g⟩ S=some (ρ x):=d6 rfl rfl
theorem z14  : zen P Γ own ρ ⟨d,.assign x,ty,pos,e,g⟩ S=zgl S (some (ρ x)):=d6 rfl rfl
theorem z16  : zfg P Γ ρ ⟨d,.assign x,ty,pos,e,g⟩ S=some (ρ x):=d6 rfl rfl
theorem yde  : zen P Γ own ρ ⟨d,.load t x,ty,pos,e,g⟩ S=zgl S (zt1 Γ S t (ρ x)):=d6 rfl rfl
theorem ydk  : zfg P Γ ρ ⟨d,.load t x,ty,pos,e,g⟩ S=zt1 Γ S t (ρ x):=d6 rfl rfl
theorem zug  : zen P Γ own ρ ⟨d,.nilCheck x,ty,pos,e,g⟩ S=zgl S (zfl S (ρ x)):=d6 rfl rfl
theorem zui  : zfg P Γ ρ ⟨d,.nilCheck x,ty,pos,e,g⟩ S=zfl S (ρ x):=d6 rfl rfl
theorem ykh  : zen P Γ own ρ ⟨d,.sliceToArrayPointer t x,ty,pos,e,g⟩ S=zgl S (tS2A Γ S t (ρ x)):=d6 rfl rfl
theorem ykn  : zfg P Γ ρ ⟨d,.sliceToArrayPointer t x,ty,pos,e,g⟩ S=tS2A Γ S t (ρ x):=d6 rfl rfl
theorem zr9 {k:Nat}:zen P Γ own ρ ⟨d,.fieldAddr t x k,ty,pos,e,g⟩ S=zgl S (zab Γ S t k (ρ x)):=d6 rfl rfl
theorem zsb {k:Nat}:zfg P Γ ρ ⟨d,.fieldAddr t x k,ty,pos,e,g⟩ S=zab Γ S t k (ρ x):=d6 rfl rfl
theorem z7n {k:Nat}:zen P Γ own ρ ⟨d,.field t x k,ty,pos,e,g⟩ S=zgl S (z1u Γ t k (ρ x)):=d6 rfl rfl
theorem z7s {k:Nat}:zfg P Γ ρ ⟨d,.field t x k,ty,pos,e,g⟩ S=z1u Γ t k (ρ x):=d6 rfl rfl
theorem zr8  : zen P Γ own ρ ⟨d,.indexAddr t x y,ty,pos,e,g⟩ S=zgl S (zhu Γ S t (ρ x) (ρ y)):=d6 rfl rfl
theorem zsa  : zfg P Γ ρ ⟨d,.indexAddr t x y,ty,pos,e,g⟩ S=zhu Γ S t (ρ x) (ρ y):=d6 rfl rfl
theorem z7m  : zen P Γ own ρ ⟨d,.index t x y,ty,pos,e,g⟩ S=zgl S (zt2 Γ t (ρ x) (ρ y)):=d6 rfl rfl
theorem z7r  : zfg P Γ ρ ⟨d,.index t x y,ty,pos,e,g⟩ S=zt2 Γ t (ρ x) (ρ y):=d6 rfl rfl
theorem zxr {k:Nat}:zen P Γ own ρ ⟨d,.extract x k,ty,pos,e,g⟩ S=zgl S (zlm k (ρ x)):=d6 rfl rfl
theorem zxs {k:Nat}:zfg P Γ ρ ⟨d,.extract x k,ty,pos,e,g⟩ S=zlm k (ρ x):=d6 rfl rfl
theorem ypi {u:UnOp}:zen P Γ own ρ ⟨d,.unOp u t x,ty,pos,e,g⟩ S=zgl S (tUn u (ρ x)):=d6 rfl rfl
theorem ypj {u:UnOp}:zfg P Γ ρ ⟨d,.unOp u t x,ty,pos,e,g⟩ S=tUn u (ρ x):=d6 rfl rfl
theorem ykm {b:BinOp}:zen P Γ own ρ ⟨d,.binOp b t x y t2,ty,pos,e,g⟩ S=zgl S (tBin P Γ S t b x y (ρ x) (ρ y)):=d6 rfl rfl
theorem ykp {b:BinOp}:zfg P Γ ρ ⟨d,.binOp b t x y t2,ty,pos,e,g⟩ S=tBin P Γ S t b x y (ρ x) (ρ y):=d6 rfl rfl
theorem z7o {parts:Array (Nat×d8)}:zen P Γ own ρ ⟨d,.build t parts,ty,pos,e,g⟩ S=zgl S (zku Γ ρ t parts.toList):=d6 rfl rfl
theorem z7t {parts:Array (Nat×d8)}:zfg P Γ ρ ⟨d,.build t parts,ty,pos,e,g⟩ S=zku Γ ρ t parts.toList:=d6 rfl rfl
theorem z7l {lo hi mx:Option d8}:zen P Γ own ρ ⟨d,.slice t x lo hi mx,ty,pos,e,g⟩ S=zgl S (zt0 Γ S t (ρ x) (lo.map ρ) (hi.map ρ) (mx.map ρ)):=d6 rfl rfl
theorem z7q {lo hi mx:Option d8}:zfg P Γ ρ ⟨d,.slice t x lo hi mx,ty,pos,e,g⟩ S=zt0 Γ S t (ρ x) (lo.map ρ) (hi.map ρ) (mx.map ρ):=d6 rfl rfl
theorem zuh {f:Nat} {a c:Array d8}:zen P Γ own ρ ⟨d,.makeFunc (.func f) a c,ty,pos,e,g⟩ S=zgl S (some (.fn f (a.toList.map ρ) (c.toList.map ρ))):=d6 rfl rfl
theorem zuj {f:Nat} {a c:Array d8}:zfg P Γ ρ ⟨d,.makeFunc (.func f) a c,ty,pos,e,g⟩ S=some (.fn f (a.toList.map ρ) (c.toList.map ρ)):=d6 rfl rfl
noncomputable def yig (c a b:T):Option T:=match c with|.bool t=>some (bif t then a else b)|_=>none
theorem yee {a b:T}:yig (.bool true) a b=some a:=d6 rfl rfl
theorem yef {a b:T}:yig (.bool false) a b=some b:=d6 rfl rfl
theorem z5k:zfg P Γ ρ ⟨d,.pick z x y,ty,pos,e,g⟩ S=yig (ρ z) (ρ x) (ρ y):=by
  show (match ρ z with|.bool t=>some (bif t then ρ x else ρ y)|_=>none)=_;cases ρ z<;>rfl
theorem ydc:zen P Γ own ρ ⟨d,.pick z x y,ty,pos,e,g⟩ S=zgl S (yig (ρ z) (ρ x) (ρ y)):=by
  show zgl S (zfg P Γ ρ ⟨d,.pick z x y,ty,pos,e,g⟩ S)=_;rw [z5k]
theorem z7p:zen P Γ own ρ ⟨d,.alloc t,ty,pos,e,g⟩ S=zxd Γ S t:=d6 rfl rfl
theorem ykl:zen P Γ own ρ ⟨d,.box t x,ty,pos,e,g⟩ S=tBox S (ρ x):=d6 rfl rfl
theorem z7k:zen P Γ own ρ ⟨d,.store t x y,ty,pos,e,g⟩ S=ztv (zxb Γ S t (ρ y) (ρ x)):=d6 rfl rfl
theorem zc9 {k:d8} {ok:Bool}:zen P Γ own ρ ⟨d,.lookup t x k ok,ty,pos,e,g⟩ S=zgl S (orW (zed Γ S t (ρ x) (ρ k) ok) (zh5 P Γ S t (ρ x) (ρ k) ok)):=d6 rfl rfl
theorem zdb {k:d8} {ok:Bool}:zfg P Γ ρ ⟨d,.lookup t x k ok,ty,pos,e,g⟩ S=orW (zed Γ S t (ρ x) (ρ k) ok) (zh5 P Γ S t (ρ x) (ρ k) ok):=d6 rfl rfl
theorem zb7:zen P Γ own ρ ⟨d,.makeMap t none,ty,pos,e,g⟩ S=zc2 S:=d6 rfl rfl
theorem zbf {k v:d8}:zen P Γ own ρ ⟨d,.mapUpdate t x k v,ty,pos,e,g⟩ S=ztv (orW (za9 Γ S t (ρ k) (ρ v) (ρ x)) (zht P Γ S t (ρ k) (ρ v) (ρ x))):=d6 rfl rfl
theorem zda {k v:d8}:zen P Γ own ρ ⟨d,.insert t x k v,ty,pos,e,g⟩ S=ztv (orW (za9 Γ S t (ρ k) (ρ v) (ρ x)) (zht P Γ S t (ρ k) (ρ v) (ρ x))):=d6 rfl rfl
theorem ynq {α:Type} {a:α} {b:Option α}:orW (some a) b=some a:=d6 rfl rfl
theorem ynr {α:Type} {b:Option α}:orW none b=b:=d6 rfl rfl
theorem zo8 {k:d8}:zen P Γ own ρ ⟨d,.mapEntry t x k,ty,pos,e,g⟩ S=zh9 P Γ S t (ρ k) (ρ x):=d6 rfl rfl
theorem zls {k v:d8}:zen P Γ own ρ ⟨d,.entryStore t x k v,ty,pos,e,g⟩ S=ztv (zfm S (ρ k) (ρ v) (ρ x)):=d6 rfl rfl
theorem zr7:zen P Γ own ρ ⟨d,.makeSlice t x y,ty,pos,e,g⟩ S=zi9 Γ S t (ρ x) (ρ y):=d6 rfl rfl
theorem ydg:zen P Γ own ρ ⟨d,.convert t t2 x,ty,pos,e,g⟩ S=bif ownD own d then zs9 Γ S t t2 (ρ x) else zgl S (zr4 Γ S t t2 (ρ x)):=d6 rfl rfl
theorem ydl:zfg P Γ ρ ⟨d,.convert t t2 x,ty,pos,e,g⟩ S=zr4 Γ S t t2 (ρ x):=d6 rfl rfl
theorem zan {n:Nat} {parts:Array (Nat×d8)}:zen P Γ own ρ ⟨d,.buildSlice t n parts,ty,pos,e,g⟩ S=bif ownD own d then zbv Γ S ρ t n parts.toList else zgl S (zah Γ ρ t n parts.toList):=d6 rfl rfl
theorem zao {n:Nat} {parts:Array (Nat×d8)}:zfg P Γ ρ ⟨d,.buildSlice t n parts,ty,pos,e,g⟩ S=zah Γ ρ t n parts.toList:=d6 rfl rfl
theorem yko:zfg P Γ ρ ⟨d,.call ⟨.builtin .len,#[x],#[t]⟩,ty,pos,e,g⟩ S=tLen Γ S t (ρ x):=d6 rfl rfl
theorem ykk:zen P Γ own ρ ⟨d,.call ⟨.builtin .len,#[x],#[t]⟩,ty,pos,e,g⟩ S=zgl S (tLen Γ S t (ρ x)):=d6 rfl rfl
theorem z15:zen P Γ own ρ ⟨d,.call ⟨.builtin .append,#[x,y],#[t,t2]⟩,ty,pos,e,g⟩ S=bif srcT Γ t2 then zrc Γ S t (ρ y) (ρ x) else none:=d6 rfl rfl
theorem ydf:zen P Γ own ρ ⟨d,.call ⟨.builtin .copy,#[x,y],#[t,t2]⟩,ty,pos,e,g⟩ S=yh8 Γ S t (ρ y) (ρ x):=d6 rfl rfl
noncomputable def minT (a b:T):Option T:=match a,b with|.int k a,.int _ b=>some (.int k (min a b))|_,_=>none
noncomputable def maxT (a b:T):Option T:=match a,b with|.int k a,.int _ b=>some (.int k (max a b))|_,_=>none
theorem z8l {k k':fx} {a b:Int}:minT (.int k a) (.int k' b)=some (.int k (min a b)):=d6 rfl rfl
theorem z8m {k k':fx} {a b:Int}:maxT (.int k a) (.int k' b)=some (.int k (max a b)):=d6 rfl rfl
theorem ydi {tys:Array ed}:zfg P Γ ρ ⟨d,.call ⟨.builtin .min,#[x,y],tys⟩,ty,pos,e,g⟩ S=minT (ρ x) (ρ y):=by
  show (match ρ x,ρ y with|.int k a,.int _ b=>some (dy k (min a b))|_,_=>none)=_;cases ρ x<;>cases ρ y<;>rfl
theorem yki {tys:Array ed}:zen P Γ own ρ ⟨d,.call ⟨.builtin .min,#[x,y],tys⟩,ty,pos,e,g⟩ S=zgl S (minT (ρ x) (ρ y)):=by
  show zgl S (zfg P Γ ρ ⟨d,.call ⟨.builtin .min,#[x,y],tys⟩,ty,pos,e,g⟩ S)=_;rw [ydi]
theorem ydj {tys:Array ed}:zfg P Γ ρ ⟨d,.call ⟨.builtin .max,#[x,y],tys⟩,ty,pos,e,g⟩ S=maxT (ρ x) (ρ y):=by
  show (match ρ x,ρ y with|.int k a,.int _ b=>some (dy k (max a b))|_,_=>none)=_;cases ρ x<;>cases ρ y<;>rfl
theorem ykj {tys:Array ed}:zen P Γ own ρ ⟨d,.call ⟨.builtin .max,#[x,y],tys⟩,ty,pos,e,g⟩ S=zgl S (maxT (ρ x) (ρ y)):=by
  show zgl S (zfg P Γ ρ ⟨d,.call ⟨.builtin .max,#[x,y],tys⟩,ty,pos,e,g⟩ S)=_;rw [ydj]
theorem ykd {b:BinOp} {k k':fx} {m n:Int}:tBin P Γ S t b x y (.int k m) (.int k' n)=zcq b k k' m n:=d6 rfl rfl
theorem ykc {b:BinOp} {m n:ByteArray}:tBin P Γ S t b x y (.str m) (.str n)=zxe b m n:=d6 rfl rfl
theorem ykg {m n:ByteArray}:zxe .eql m n=some (.bool (decide (m=n))):=d6 rfl rfl
theorem ykf {m n:ByteArray}:zxe .neq m n=some (.bool (!decide (m=n))):=d6 rfl rfl
theorem yka {b:Bool}:tUn .not (.bool b)=some (.bool (!b)):=d6 rfl rfl
theorem ykb {k:fx} {n:Int}:tUn .neg (.int k n)=some (.int k (k.wrap (0 - n))):=d6 rfl rfl
end
section
variable {k:fx} {a b:Int}
theorem ylf:zcq .add k k a b=some (.int k (k.wrap (a+b))):=by simp [zcq]
theorem yk6:zcq .sub k k a b=some (.int k (k.wrap (a - b))):=by simp [zcq]
theorem yk8:zcq .mul k k a b=some (.int k (k.wrap (a*b))):=by simp [zcq]
theorem yle:zcq .eql k k a b=some (.bool (decide (a=b))):=by simp [zcq]
theorem yk7:zcq .neq k k a b=some (.bool (decide (a≠b))):=by simp [zcq]
theorem yk9:zcq .lss k k a b=some (.bool (decide (a<b))):=by simp [zcq]
theorem yla:zcq .leq k k a b=some (.bool (decide (a<=b))):=by simp [zcq]
theorem ylb:zcq .gtr k k a b=some (.bool (decide (b<a))):=by simp [zcq]
theorem ylc:zcq .geq k k a b=some (.bool (decide (b<=a))):=by simp [zcq]
theorem zhr (ha:0<=a) (hb:0<b):zcq .quo k k a b=some (.int k (k.wrap (a / b))):=by
  simp only [zcq,gw,cond_true];rw [zAd (by omega),Int.tdiv_eq_ediv_of_nonneg ha]
theorem zhq (ha:0<=a) (hb:0<b):zcq .rem k k a b=some (.int k (a % b)):=by
  simp only [zcq,gw,cond_true];rw [zAd (by omega),Int.tmod_eq_emod_of_nonneg ha]
theorem yp2:zcq .and k k a b=some (.int k (k.wrap (ge k.bits a &&& ge k.bits b).toNat)):=by simp [zcq]
theorem ib_or:zcq .or k k a b=some (.int k (k.wrap (ge k.bits a ||| ge k.bits b).toNat)):=by simp [zcq]
theorem yp1:zcq .xor k k a b=some (.int k (k.wrap (ge k.bits a ^^^ ge k.bits b).toNat)):=by simp [zcq]
theorem wr64 {n:Int} (h:-9223372036854775808<=n/\n<=9223372036854775807):IntKind.i64.wrap n=n:=ynz h
theorem yey {n:Int} (h:0<=n):natT (.int k n)=some n.toNat:=by
  obtain ⟨m,rfl⟩:=Int.eq_ofNat_of_zero_le h;rfl
theorem yez {n:Int} (h:0<=n):zgs (.int k n)=some n.toNat:=by
  obtain ⟨m,rfl⟩:=Int.eq_ofNat_of_zero_le h;rfl
theorem zx1 {n:Int}:zej (.int k n)=.int k n:=d6 rfl rfl
theorem yi7 {α:Type} [Inhabited α] {L:List α} {n:Nat} (h:n<L.length):L[n]?=some (L.getD n default):=by
  rw [ef,dv h];rfl
def stL (l:List Box):TS:=⟨l.length,fun i=>l.getD i .gone⟩
theorem z64:ts0=stL []:=rfl
theorem st_n (l:List Box):(stL l).n=l.length:=rfl
theorem yke (l:List Box) (i:Nat):(stL l).box i=l.getD i .gone:=rfl
theorem ycy (l:List Box) (x:Box):(stL l).add x=stL (l++[x]):=by
  unfold stL TS.add;simp only [er,eh,gh];congr 1;funext i;by_cases hi:i<l.length
  . rw [zAd (by omega),ef,ef,eu hi]
  . by_cases he:i=l.length
    . subst he;rw [zAc rfl];simp
    . rw [zAd he,ef,ef,ic (by omega),ic (by simp;omega)]
theorem zol (l:List Box) (b:Nat) (x:Box) (h:b<l.length):(stL l).set b x=stL (l.set b x):=by
  unfold stL TS.set;simp only [od];congr 1;funext i;rw [ef,ef,List.getElem?_set];by_cases hi:i=b
  . subst hi;rw [zAc rfl,zAc rfl,zAc h];rfl
  . rw [zAd hi,zAd (fun hh=>hi hh.symm)]
theorem z3r {α:Type} (x d:α) (l:List α):(x :: l).getD 0 d=x:=rfl
theorem z3s {α:Type} (x d:α) (l:List α) (n:Nat):(x :: l).getD (n+1) d=l.getD n d:=rfl
end
def z0l (l:List Nat) (h:Nat->T):Nat->T:=fun t=>if t∈l then h t else .junk
def zir:List Nat->Nat->(Nat->T)->Prop
  |[],_,_=>True
  |t :: l,n,h=>(h t).ids n=true/\zir l n h
theorem zpc {n:Nat} {h:Nat->T}:∀ {l:List Nat},zir l n h->∀ t,t∈l->(h t).ids n=true
  |[],_,t,ht=>by simp at ht
  |x :: l,k,t,ht=>by
    rcases List.mem_cons.1 ht with rfl|ht
    . exact k.1
    . exact zpc k.2 t ht
def zf5 (n:Nat):List Box->Bool
  |[]=>true
  |b :: l=>zhs n b && zf5 n l
theorem ynd {l:List T} {i:Nat} {x:T} (h:i<l.length):spl l i [x]=l.set i x:=by
  unfold spl;rw [List.set_eq_take_append_cons_drop,zAc h];simp
theorem yni {α:Type} {L:List α} {f:α->T} {i:Nat} {v:α}:(L.map f).set i (f v)=(L.set i v).map f:=(List.map_set).symm
theorem yng {l:List T}:spl l 0 []=l:=by simp [spl]
theorem ypd {a:T} {l xs:List T} {n:Nat}:spl (a :: l) (n+1) xs=a :: spl l n xs:=by
  unfold spl;rw [show n+1+xs.length=(n+xs.length)+1 by omega];simp
theorem ype {a x:T} {l xs:List T}:spl (a :: l) 0 (x :: xs)=x :: spl l 0 xs:=by simp [spl]
theorem ynf {α:Type} {L:List α} {f:α->T} {i:Nat} {v:α} (h:i<L.length):spl (L.map f) i [f v]=(L.set i v).map f:=by
  rw [ynd (by rw [ec];exact h),yni]
theorem ydt (n:Nat) (k:fx) (z:Int):rep n [.int k z]=(ew n z).map (dy k):=by
  unfold rep
  induction n with
  |zero=>rfl
  |succ n ih=>rw [gu,fm,ih,gu];rfl
theorem z72 (n:Nat) (z:Bool):rep n [.bool z]=(ew n z).map oy:=by
  unfold rep
  induction n with
  |zero=>rfl
  |succ n ih=>rw [gu,fm,ih,gu];rfl
theorem zfz {α:Type} {L:List α} {f:α->T} (h:∀ x,(f x).cells=[f x]):(L.map f).flatMap gd=L.map f:=by
  induction L with
  |nil=>rfl
  |cons x l ih=>rw [gb,ij,h,ih];rfl
theorem yiz {α:Type} {S:TS} {b N:Nat} {z:Bool} {L:List α} {f:α->T} (h1:∀ x,(f x).cells=[f x]) (hS:S.box b=.cells z N (L.map f)) (hl:L.length=N):yov S (.arr b 1 0 N N N) (.lst 1 (L.map f)) :=
  .inr ⟨b,1,0,N,N,N,z,L.map f,L.map f,rfl,rfl,hS,by omega,by omega,by rw [fp,nf,fk (by rw [ec];omega),zfz h1],fun t ht=>by obtain ⟨x,_,rfl⟩:=List.mem_map.1 ht;rw [h1];rfl,by rw [ec];exact hl,dz _⟩
section
variable {GL:List (Nat×List Value)} {A A' A2:Nat->Prop} {β β' β2:Bx} {S S' S2:TS} {s s' s2:CS} {P:ep} {Γ:Env} {N:Nat} {h h' h2:Nat->T} {Q R:Exit->(Nat->T)->TS->Prop}
theorem zny {l:List Nat} {t:Nat} (ht:t∈l):z0l l h t=h t:=zAc ht
theorem zsu {n:Nat} {l:List Box}:∀ {i:Nat},zf5 n l=true->zhs n (l.getD i .gone)=true:=by
  induction l with
  |nil=>intro i _;rfl
  |cons b l ih =>
    intro i h;simp only [zf5,dr] at h
    cases i with
    |zero=>exact h.1
    |succ i=>exact ih h.2
theorem Left.trim {fr fr':Fr} {keep:List Nat} {bs bs2 extra:List Box} (hT:TRel GL A β (stL bs) s) (k:Left GL A β s N fr' s' h' (stL (bs2++extra))) (hl:bs2.length=bs.length) (hb:zf5 bs.length bs2=true) (hk:zir keep bs.length h'):Left GL A β s N fr' s' (z0l keep h') (stL bs2):=by
  obtain ⟨A',β',k1,k2,k3⟩:=k;have hat:∀ b,b<bs.length->bcut β' bs.length b=β' b:=fun b hb=>zAc hb
  have hsub:∀ b l,bcut β' bs.length b=some l->β' b=some l:=fun b l h=>by
    unfold bcut at h;split at h
    . exact h
    . simp at h
  have hkp:zww (stL (bs2++extra)) (stL bs2):=by
    refine ⟨by simp [stL],fun b=>?_⟩;by_cases hbl:b<bs2.length
    . refine .inr ⟨hbl,?_,?_⟩
      . show bs2.getD b .gone=(bs2++extra).getD b .gone;rw [ef,ef,eu hbl]
      . show zhs bs2.length ((bs2++extra).getD b .gone)=true;rw [ef,eu hbl,<- ef,hl];exact zsu hb
    . left;show bs2.getD b .gone=.gone;rw [ef,ic (by omega)];rfl
  have hcut:=k2.cut hkp;have hn:(stL bs2).n=bs.length:=hl;rw [hn] at hcut;refine ⟨A',bcut β' bs.length,⟨k1.nt,k1.le,fun t=>?_⟩,hcut,k3.can,k3.sub,k3.new,fun f hf=>?_,k3.keep,fun b l hb'=>?_,k3.rd,k3.wr⟩
  . by_cases ht:t∈keep
    . rw [zny ht];exact (k1.slot t).ids hat (zpc hk t ht)
    . rw [show z0l keep h' t=.junk from zAd ht];exact .junk _
  . obtain ⟨b,hb'⟩:=hf;exact k3.own f ⟨b,hb'.imp (fun ⟨u,N,h⟩=>⟨u,N,hsub _ _ h⟩) fun h=>hsub _ _ h⟩
  . obtain ⟨l',c1,c2⟩:=k3.bx b l hb'
    have:b<bs.length:=by
      by_cases hh:b<bs.length
      . exact hh
      . rw [hT.next b (by show bs.length<=b;omega)] at hb';simp at hb'
    exact ⟨l',by rw [hat b this];exact c1,c2⟩
def yqs (keep:List Nat) (n:Nat) (I:Nat->(Nat->T)->List Box->Prop) (m0:Nat) (h':Nat->T) (S':TS):Prop :=
  ∃ m,m<m0/\∃ bs',S'=stL bs'/\n<=bs'.length/\zf5 n (bs'.take n)=true/\zir keep n h'/\I m (z0l keep h') (bs'.take n)
theorem TW.loopT {b:Code} (keep:List Nat) (I:Nat->(Nat->T)->List Box->Prop) (hb:∀ m h bs,I m h bs->TW P Γ GL N b h (stL bs) (onT (fun h' S'=>yqs keep bs.length I m h' S') Q)):∀ m h bs,I m h bs->TW P Γ GL N (.loop b) h (stL bs) Q:=by
  intro m
  induction m using Nat.strongRecOn with
  |_ m ih =>
    intro h bs hI A β fr s hF hT;obtain ⟨e,fr1,s1,h1,h',S',hleft,hq⟩:=hb m h bs hI A β fr s hF hT
    cases e with
    |normal =>
      obtain ⟨m2,hm,bs',rfl,hl,hbi,hki,hI'⟩:=hq;have hl2:=Left.trim (fr:=fr) (keep:=keep) (bs2:=bs'.take bs.length) (extra:=bs'.drop bs.length) hT (by rw [iq];exact hleft) (by rw [fi];omega) hbi hki;obtain ⟨A',β',k1,k2,k3⟩:=hl2;obtain ⟨e2,fr2,s2,h3,h2,S2,l2,q2⟩:=ih m2 hm _ _ hI' A' β' fr1 s1 k1 k2;exact ⟨e2,fr2,s2,Ev.again h1 h3,h2,S2,mb (h':=h) (fr':=fr) hT.le k3 l2,q2⟩
    |_=>exact ⟨_,_,_,Ev.last h1 (by simp),h',S',hleft,hq⟩
def Ends (keep:List Nat) (n:Nat) (R:(Nat->T)->List Box->Prop) (h':Nat->T) (S':TS):Prop :=
  ∃ bs',S'=stL bs'/\n<=bs'.length/\zf5 n (bs'.take n)=true/\zir keep n h'/\R (z0l keep h') (bs'.take n)
theorem TRel.freezeP (hT:TRel GL A β S s) {b M:Nat} {z:Bool} {l:List T} (hS:S.box b=.cells z M l) :
    ∃ A' β',TRel GL A' β' (S.set b .gone) s/\Stp A β s A' β' s/\∀ {v:Value},VT A β (zaa s.obj) (.ptr b 0 M) v->VT A' β' (zaa s.obj) (.cp l) v:=by
  obtain ⟨hlN,hc⟩:=hT.cells b z M l hS;rcases hc with ⟨hb,hN,_⟩|⟨f,u,cs,rest,hb,hz,hat,hvl,hone⟩
  . obtain ⟨k1,k2⟩:=hT.dead hb A (fun _ h=>h) (fun _ h=>.inl h);refine ⟨_,_,k1,k2,fun {v} hv=>?_⟩;obtain ⟨f,u,rfl,hb'⟩:=zjt hT hS hv;rw [hb] at hb';simp at hb'
  . obtain ⟨k1,k2⟩:=hT.dead hb (fun k=>A k\/k=f) (fun _ h=>.inl h) (fun k hk=>hk.imp id fun q=>by rw [q];rfl);refine ⟨_,_,k1,k2,fun {v} hv=>?_⟩;obtain ⟨f',u',rfl,hb'⟩:=zjt hT hS hv;rw [hb] at hb';cases hb'
    have hrow:zbu (zaa s.obj f).rows u=some cs:=by
      rw [hat];show zbu ((u,cs) :: rest) u=some cs;unfold zbu;rw [gw];rfl
    exact .cp (.inr rfl) hrow (hvl.mono (fun _ h=>.inl h) (fun _ _=>rfl) k2.bx) (by rw [fp,List.take_length])
theorem TW.freezeP {c:Code} (t:Nat) {b M:Nat} {z:Bool} {l:List T} (ht:h t=.ptr b 0 M) (hS:S.box b=.cells z M l) (k:TW P Γ GL N c (tupd h t (.cp l)) (S.set b .gone) Q):TW P Γ GL N c h S Q:=by
  intro A β fr s hF hT;obtain ⟨A',β',k1,k2,k3⟩:=hT.freezeP hS;have hv:=hF.slot t;rw [ht] at hv
  have hF':FrOk A' β' (zaa s.obj) N (tupd h t (.cp l)) fr:=⟨hF.nt,hF.le,fun u=>by
    by_cases hu:u=t
    . subst hu;rw [zjn];exact k3 hv
    . rw [zo1 _ _ _ _ hu];exact k2.vt hT (hF.slot u)⟩
  refine (k A' β' fr s hF' k1).mono ?_;rintro e2 fr2 s2 ⟨h2,S2,l2,q2⟩;exact ⟨h2,S2,mb (h':=h) (fr':=fr) hT.le k2 l2,q2⟩
theorem TW.cut {a:Code} {k:(Nat->T)->TS->Prop} (keep:List Nat) {bs:List Box} (R:(Nat->T)->List Box->Prop) (hR:TW P Γ GL N a h (stL bs) fun e h' S'=>e=.normal/\Ends keep bs.length R h' S') (hk:∀ h bs2,R h bs2->k h (stL bs2)):TW P Γ GL N a h (stL bs) (onT k Q):=by
  intro A β fr s hF hT;obtain ⟨e,fr1,s1,h1,h',S',hleft,rfl,bs',rfl,hl,hbi,hki,hq⟩:=hR A β fr s hF hT;exact ⟨_,fr1,s1,h1,_,_,Left.trim (fr:=fr) (keep:=keep) (bs2:=bs'.take bs.length) (extra:=bs'.drop bs.length) hT (by rw [iq];exact hleft) (by rw [fi];omega) hbi hki,hk _ _ hq⟩
end
theorem z8e {k:fx} {n:Int}:jn (dy k n)=true:=d6 rfl rfl
theorem z9x {k:fx} {n:Int}:gd (dy k n)=[(dy k n)]:=d6 rfl rfl
theorem z2w {b:Bool}:jn (oy b)=true:=d6 rfl rfl
theorem z4k {b:Bool}:gd (oy b)=[(oy b)]:=d6 rfl rfl
theorem z8b {b:ByteArray}:jn (l6 b)=true:=d6 rfl rfl
theorem z9u {b:ByteArray}:gd (l6 b)=[(l6 b)]:=d6 rfl rfl
theorem z8d {e:Nat} {l:List T}:jn (T.lst e l)=true:=d6 rfl rfl
theorem z9w {e:Nat} {l:List T}:gd (T.lst e l)=[(T.lst e l)]:=d6 rfl rfl
theorem z2r  : jn (T.nils)=true:=d6 rfl rfl
theorem z4f  : gd (T.nils)=[(T.nils)]:=d6 rfl rfl
theorem z2s  : jn (T.nilp)=true:=d6 rfl rfl
theorem z4g  : gd (T.nilp)=[(T.nilp)]:=d6 rfl rfl
theorem z2t  : jn (T.nilm)=true:=d6 rfl rfl
theorem z4h  : gd (T.nilm)=[(T.nilm)]:=d6 rfl rfl
theorem z2u  : jn (T.nilf)=true:=d6 rfl rfl
theorem z4i  : gd (T.nilf)=[(T.nilf)]:=d6 rfl rfl
theorem z8c {b o n:Nat}:jn (T.ptr b o n)=true:=d6 rfl rfl
theorem z9v {b o n:Nat}:gd (T.ptr b o n)=[(T.ptr b o n)]:=d6 rfl rfl
theorem yep {l:List T}:jn (T.cp l)=true:=d6 rfl rfl
theorem yhd {l:List T}:gd (T.cp l)=[(T.cp l)]:=d6 rfl rfl
theorem z8g {b e o l c n:Nat}:jn (T.arr b e o l c n)=true:=d6 rfl rfl
theorem z9z {b e o l c n:Nat}:gd (T.arr b e o l c n)=[(T.arr b e o l c n)]:=d6 rfl rfl
theorem yen {b:Nat}:jn (T.mp b)=true:=d6 rfl rfl
theorem yhb {b:Nat}:gd (T.mp b)=[(T.mp b)]:=d6 rfl rfl
theorem yeo {f:Nat} {a c:List T}:jn (T.fn f a c)=true:=d6 rfl rfl
theorem yhc {f:Nat} {a c:List T}:gd (T.fn f a c)=[(T.fn f a c)]:=d6 rfl rfl
theorem z8f {e:Nat}:jn (T.emp e)=true:=d6 rfl rfl
theorem z9y {e:Nat}:gd (T.emp e)=[(T.emp e)]:=d6 rfl rfl
theorem ymu {k:fx}:aggT (.int k)=false:=d6 rfl rfl
theorem ymv  : aggT .bool=false:=d6 rfl rfl
theorem ymq  : aggT .string=false:=d6 rfl rfl
theorem ymt {k:ed}:aggT (.slice k)=false:=d6 rfl rfl
theorem ymr {k:ed}:aggT (.pointer k)=false:=d6 rfl rfl
theorem yms {k k2:ed}:aggT (.map k k2)=false:=d6 rfl rfl
theorem b0:type_of% (dm (dm (dm (dm (dm (@ydm) (@ydn)) (dm (@z18) (@zun))) (dm (dm (@zum) (@z7u)) (dm (@yeu) (@ykw)))) (dm (dm (dm (@yeq) (@z95)) (dm (@ydo) (@ydp))) (dm (dm (@z19) (@zup)) (dm (@zuo) (@z7w))))) (dm (dm (dm (dm (@z8k) (@yer)) (dm (@z8h) (@z4n))) (dm (dm (@yca) (@ycb)) (dm (@ycd) (@yce)))) (dm (dm (dm (@ycc) (@zxi)) (dm (@zxj) (@yfv))) (dm (dm (@z85) (@z1p)) (dm (@zw9) (@z3f)))))):=dm (dm (dm (dm (dm (@ydm) (@ydn)) (dm (@z18) (@zun))) (dm (dm (@zum) (@z7u)) (dm (@yeu) (@ykw)))) (dm (dm (dm (@yeq) (@z95)) (dm (@ydo) (@ydp))) (dm (dm (@z19) (@zup)) (dm (@zuo) (@z7w))))) (dm (dm (dm (dm (@z8k) (@yer)) (dm (@z8h) (@z4n))) (dm (dm (@yca) (@ycb)) (dm (@ycd) (@yce)))) (dm (dm (dm (@ycc) (@zxi)) (dm (@zxj) (@yfv))) (dm (dm (@z85) (@z1p)) (dm (@zw9) (@z3f)))))
theorem b1:type_of% (dm (dm (dm (dm (dm (@zyb) (@z91)) (dm (@z93) (@yei))) (dm (dm (@yej) (@zy5)) (dm (@zn6) (@ygv)))) (dm (dm (dm (@z32) (@ykz)) (dm (@zrt) (@yky))) (dm (dm (@ye8) (@ye9)) (dm (@yfa) (@yfb))))) (dm (dm (dm (dm (@zw3) (@zw4)) (dm (@yfo) (@z3o))) (dm (dm (@yfn) (@z82)) (dm (@yk4) (@z81)))) (dm (dm (dm (@zqp) (@yfp)) (dm (@z8x) (@zvq))) (dm (dm (@yk5) (@yp0)) (dm (@yfq) (@yk3)))))):=dm (dm (dm (dm (dm (@zyb) (@z91)) (dm (@z93) (@yei))) (dm (dm (@yej) (@zy5)) (dm (@zn6) (@ygv)))) (dm (dm (dm (@z32) (@ykz)) (dm (@zrt) (@yky))) (dm (dm (@ye8) (@ye9)) (dm (@yfa) (@yfb))))) (dm (dm (dm (dm (@zw3) (@zw4)) (dm (@yfo) (@z3o))) (dm (dm (@yfn) (@z82)) (dm (@yk4) (@z81)))) (dm (dm (dm (@zqp) (@yfp)) (dm (@z8x) (@zvq))) (dm (dm (@yk5) (@yp0)) (dm (@yfq) (@yk3)))))
theorem b2:type_of% (dm (dm (dm (dm (dm (@zvr) (@zsj)) (dm (@z8y) (@zsl))) (dm (dm (@z80) (@zsk)) (dm (@z8z) (@zyt)))) (dm (dm (dm (@zyu) (@ydd)) (dm (@ydh) (@z14))) (dm (dm (@z16) (@yde)) (dm (@ydk) (@zug))))) (dm (dm (dm (dm (@zui) (@ykh)) (dm (@ykn) (@zr9))) (dm (dm (@zsb) (@z7n)) (dm (@z7s) (@zr8)))) (dm (dm (dm (@zsa) (@z7m)) (dm (@z7r) (@zxr))) (dm (dm (@zxs) (@ypi)) (dm (@ypj) (@ykm)))))):=dm (dm (dm (dm (dm (@zvr) (@zsj)) (dm (@z8y) (@zsl))) (dm (dm (@z80) (@zsk)) (dm (@z8z) (@zyt)))) (dm (dm (dm (@zyu) (@ydd)) (dm (@ydh) (@z14))) (dm (dm (@z16) (@yde)) (dm (@ydk) (@zug))))) (dm (dm (dm (dm (@zui) (@ykh)) (dm (@ykn) (@zr9))) (dm (dm (@zsb) (@z7n)) (dm (@z7s) (@zr8)))) (dm (dm (dm (@zsa) (@z7m)) (dm (@z7r) (@zxr))) (dm (dm (@zxs) (@ypi)) (dm (@ypj) (@ykm)))))
theorem b3:type_of% (dm (dm (dm (dm (dm (@ykp) (@z7o)) (dm (@z7t) (@z7l))) (dm (dm (@z7q) (@zuh)) (dm (@zuj) (@ydc)))) (dm (dm (dm (@z5k) (@ydg)) (dm (@ydl) (@zan))) (dm (dm (@zao) (@ykk)) (dm (@yko) (@yki))))) (dm (dm (dm (dm (@ydi) (@ykj)) (dm (@ydj) (@z7p))) (dm (dm (@ykl) (@z7k)) (dm (@zr7) (@z15)))) (dm (dm (dm (@ydf) (@yee)) (dm (@yef) (@z8l))) (dm (dm (@z8m) (@ykd)) (dm (@ykc) (@ykg)))))):=dm (dm (dm (dm (dm (@ykp) (@z7o)) (dm (@z7t) (@z7l))) (dm (dm (@z7q) (@zuh)) (dm (@zuj) (@ydc)))) (dm (dm (dm (@z5k) (@ydg)) (dm (@ydl) (@zan))) (dm (dm (@zao) (@ykk)) (dm (@yko) (@yki))))) (dm (dm (dm (dm (@ydi) (@ykj)) (dm (@ydj) (@z7p))) (dm (dm (@ykl) (@z7k)) (dm (@zr7) (@z15)))) (dm (dm (dm (@ydf) (@yee)) (dm (@yef) (@z8l))) (dm (dm (@z8m) (@ykd)) (dm (@ykc) (@ykg)))))
theorem b4:type_of% (dm (dm (dm (dm (dm (@ykf) (@yka)) (dm (@ykb) (@zcf))) (dm (dm (@zx1) (@yey)) (dm (@yez) (@ydt)))) (dm (dm (dm (@z72) (@yng)) (dm (@ypd) (@ype))) (dm (dm (@ylf) (@yk6)) (dm (@yk8) (@yle))))) (dm (dm (dm (dm (@yk7) (@yk9)) (dm (@yla) (@ylb))) (dm (dm (@ylc) (@zhr)) (dm (@zhq) (@z64)))) (dm (dm (dm (@st_n) (@yke)) (dm (@ycy) (@zol))) (dm (dm (@z3r) (@z3s)) (dm (@cond_true.{1}) (@cond_false.{1})))))):=dm (dm (dm (dm (dm (@ykf) (@yka)) (dm (@ykb) (@zcf))) (dm (dm (@zx1) (@yey)) (dm (@yez) (@ydt)))) (dm (dm (dm (@z72) (@yng)) (dm (@ypd) (@ype))) (dm (dm (@ylf) (@yk6)) (dm (@yk8) (@yle))))) (dm (dm (dm (dm (@yk7) (@yk9)) (dm (@yla) (@ylb))) (dm (dm (@ylc) (@zhr)) (dm (@zhq) (@z64)))) (dm (dm (dm (@st_n) (@yke)) (dm (@ycy) (@zol))) (dm (dm (@z3r) (@z3s)) (dm (@cond_true.{1}) (@cond_false.{1})))))
theorem b5:type_of% (dm (dm (dm (dm (dm (@List.toList_toArray.{0}) (@gb.{0,0})) (dm (@oz.{0,0}) (@eh.{0}))) (dm (dm (@gh.{0}) (@ec.{0,0})) (dm (@fl.{0}) (@ji.{0})))) (dm (dm (dm (@kj.{0,0}) (@Option.map_some.{0,0})) (dm (@Option.map_none.{0,0}) (@ff.{0}))) (dm (dm (@fd.{0}) (@fj.{0})) (dm (@ii.{0}) (@List.all_nil.{0}))))) (dm (dm (dm (dm (@fp.{0}) (@ir.{0})) (dm (@jy.{0}) (@ky.{0}))) (dm (dm (@nd.{0}) (@ke.{0})) (dm (@mj) (@iw)))) (dm (dm (dm (@et) (@f6)) (dm (@Bool.not_false) (@pg))) (dm (dm (@Bool.and_false) (@zkd)) (dm (@yaa) (@zke)))))):=dm (dm (dm (dm (dm (@List.toList_toArray.{0}) (@gb.{0,0})) (dm (@oz.{0,0}) (@eh.{0}))) (dm (dm (@gh.{0}) (@ec.{0,0})) (dm (@fl.{0}) (@ji.{0})))) (dm (dm (dm (@kj.{0,0}) (@Option.map_some.{0,0})) (dm (@Option.map_none.{0,0}) (@ff.{0}))) (dm (dm (@fd.{0}) (@fj.{0})) (dm (@ii.{0}) (@List.all_nil.{0}))))) (dm (dm (dm (dm (@fp.{0}) (@ir.{0})) (dm (@jy.{0}) (@ky.{0}))) (dm (dm (@nd.{0}) (@ke.{0})) (dm (@mj) (@iw)))) (dm (dm (dm (@et) (@f6)) (dm (@Bool.not_false) (@pg))) (dm (dm (@Bool.and_false) (@zkd)) (dm (@yaa) (@zke)))))
theorem b6:type_of% (dm (dm (dm (dm (dm (@gw) (@Int.toNat_natCast)) (dm (@fz) (@gm))) (dm (dm (@nf) (@ml.{0})) (dm (@ownD.eq_1) (@ownD.eq_2)))) (dm (dm (dm (@has.eq_1) (@has.eq_2)) (dm (@tLen.eq_1) (@zt1.eq_1))) (dm (dm (@zt1.eq_2) (@zxb.eq_1)) (dm (@z2p.eq_1) (@tBox.eq_1))))) (dm (dm (dm (dm (@zxd.eq_1) (@zf6.eq_1)) (dm (@zf6.eq_2) (@zll.eq_1))) (dm (dm (@zll.eq_2) (@zll.eq_3)) (dm (@zll.eq_4) (@zll.eq_5)))) (dm (dm (dm (@zll.eq_6) (@zll.eq_7)) (dm (@zhu.eq_1) (@zt2.eq_1))) (dm (dm (@zlm.eq_1) (@zfl.eq_1)) (dm (@zfl.eq_2) (@zfl.eq_3)))))):=dm (dm (dm (dm (dm (@gw) (@Int.toNat_natCast)) (dm (@fz) (@gm))) (dm (dm (@nf) (@ml.{0})) (dm (@ownD.eq_1) (@ownD.eq_2)))) (dm (dm (dm (@has.eq_1) (@has.eq_2)) (dm (@tLen.eq_1) (@zt1.eq_1))) (dm (dm (@zt1.eq_2) (@zxb.eq_1)) (dm (@z2p.eq_1) (@tBox.eq_1))))) (dm (dm (dm (dm (@zxd.eq_1) (@zf6.eq_1)) (dm (@zf6.eq_2) (@zll.eq_1))) (dm (dm (@zll.eq_2) (@zll.eq_3)) (dm (@zll.eq_4) (@zll.eq_5)))) (dm (dm (dm (@zll.eq_6) (@zll.eq_7)) (dm (@zhu.eq_1) (@zt2.eq_1))) (dm (dm (@zlm.eq_1) (@zfl.eq_1)) (dm (@zfl.eq_2) (@zfl.eq_3)))))
theorem b7:type_of% (dm (dm (dm (dm (dm (@zt0.eq_1) (@zr4.eq_1)) (dm (@TS.has.eq_1) (@zi9.eq_1))) (dm (dm (@aggT.eq_1) (@aggT.eq_2)) (dm (@ymu) (@ymv)))) (dm (dm (dm (@ymq) (@ymt)) (dm (@ymr) (@yms))) (dm (dm (@gd.eq_1) (@jn.eq_1)) (dm (@jn.eq_2) (@jn.eq_3))))) (dm (dm (dm (dm (@z8e) (@z9x)) (dm (@z2w) (@z4k))) (dm (dm (@z8b) (@z9u)) (dm (@z8d) (@z9w)))) (dm (dm (dm (@z2r) (@z4f)) (dm (@z2s) (@z4g))) (dm (dm (@z2t) (@z4h)) (dm (@z2u) (@z4i)))))):=dm (dm (dm (dm (dm (@zt0.eq_1) (@zr4.eq_1)) (dm (@TS.has.eq_1) (@zi9.eq_1))) (dm (dm (@aggT.eq_1) (@aggT.eq_2)) (dm (@ymu) (@ymv)))) (dm (dm (dm (@ymq) (@ymt)) (dm (@ymr) (@yms))) (dm (dm (@gd.eq_1) (@jn.eq_1)) (dm (@jn.eq_2) (@jn.eq_3))))) (dm (dm (dm (dm (@z8e) (@z9x)) (dm (@z2w) (@z4k))) (dm (dm (@z8b) (@z9u)) (dm (@z8d) (@z9w)))) (dm (dm (dm (@z2r) (@z4f)) (dm (@z2s) (@z4g))) (dm (dm (@z2t) (@z4h)) (dm (@z2u) (@z4i)))))
theorem b8:type_of% (dm (dm (dm (@z8c) (dm (@z9v) (@yep))) (dm (@yhd) (dm (@z8g) (@z9z)))) (dm (dm (@yen) (dm (@yhb) (@yeo))) (dm (@yhc) (dm (@z8f) (@z9y))))):=dm (dm (dm (@z8c) (dm (@z9v) (@yep))) (dm (@yhd) (dm (@z8g) (@z9z)))) (dm (dm (@yen) (dm (@yhb) (@yeo))) (dm (@yhc) (dm (@z8f) (@z9y))))
theorem apA:type_of% (dm (dm (dm (@zrc.eq_1) (@z4s)) (dm (@zoy) (dm (@zwd) (@Bool.or_false)))) (dm (dm (@Bool.or_self) (@ij.{0,0})) (dm (@List.flatMap_nil.{0,0}) (dm (@ig) (@mr))))):=dm (dm (dm (@zrc.eq_1) (@z4s)) (dm (@zoy) (dm (@zwd) (@Bool.or_false)))) (dm (dm (@Bool.or_self) (@ij.{0,0})) (dm (@List.flatMap_nil.{0,0}) (dm (@ig) (@mr))))
theorem apB:type_of% (dm (dm (@zd7.eq_1) (@zd7.eq_2)) (dm (@zah.eq_1) (dm (@zan) (@zao)))):=dm (dm (@zd7.eq_1) (@zd7.eq_2)) (dm (@zah.eq_1) (dm (@zan) (@zao)))
theorem lzA:type_of% (dm (@eh.{0}) (dm (@gh.{0}) (@fz))):=dm (@eh.{0}) (dm (@gh.{0}) (@fz))
mutual
def T.ren (ρ:Nat->Nat):T->T
  |.agg l=>.agg (T.renL ρ l)
  |.tup l=>.tup (T.renL ρ l)
  |.lst e l=>.lst e (T.renL ρ l)
  |.cp l=>.cp (T.renL ρ l)
  |.ptr b o N=>.ptr (ρ b) o N
  |.arr b e o l c N=>.arr (ρ b) e o l c N
  |.mp b=>.mp (ρ b)
  |.fn f a c=>.fn f (T.renL ρ a) (T.renL ρ c)
  |.int k n=>.int k n
  |.bool b=>.bool b
  |.str b=>.str b
  |.nils=>.nils
  |.nilp=>.nilp
  |.nilm=>.nilm
  |.nilf=>.nilf
  |.junk=>.junk
  |.emp e=>.emp e
def T.renL (ρ:Nat->Nat):List T->List T
  |[]=>[]
  |t :: l=>t.ren ρ :: T.renL ρ l
end
def zoo (ρ:Nat->Nat):Box->Box
  |.gone=>.gone
  |.cells z N l=>.cells z N (T.renL ρ l)
  |.map l=>.map (l.map fun p=>(p.1.ren ρ,p.2.ren ρ))
section
variable {GL:List (Nat×List Value)} {A A' A1:Nat->Prop} {β β' β0 β1:Bx} {S S' S0 S1:TS} {s s' s1:CS} {P:ep} {Γ:Env} {g g':Nat->Fam} {ρ:Nat->Nat} {n:Nat}
theorem zlw:∀ (l:List T),T.renL ρ l=l.map (T.ren ρ)
  |[]=>rfl
  |t :: l=>by rw [T.renL,gb,zlw l]
theorem zj7 (l:List T):(T.renL ρ l).length=l.length:=by rw [zlw,ec]
theorem z5q (l m:List T):T.renL ρ (l++m)=T.renL ρ l++T.renL ρ m:=by simp only [zlw,na]
theorem zur (t:T):(t.ren ρ).cells=T.renL ρ t.cells:=by
  cases t<;>simp only [T.ren,gd,T.renL]
theorem zz9:∀ (l:List T),(T.renL ρ l).flatMap gd=T.renL ρ (l.flatMap gd)
  |[]=>rfl
  |t :: l=>by rw [T.renL,ij,ij,zur,zz9 l,z5q]
theorem yfm:∀ {l:List T},fy n l=true->∀ t,t∈l->t.ids n=true
  |[],_,t,h=>by simp at h
  |x :: l,h,t,ht=>by
    simp only [fy,dr] at h;rcases List.mem_cons.1 ht with rfl|ht
    . exact h.1
    . exact yfm h.2 t ht
mutual
theorem VT.up (hβ:∀ b,b<n->β' (ρ b)=β b):∀ {t:T} {v:Value},t.ids n=true->VT A β g t v->VT A β' g (t.ren ρ) v
  |_,_,_,.int k n=>.int k n
  |_,_,_,.bool b=>.bool b
  |_,_,_,.str b=>.str b
  |_,_,hi,.agg h=>.agg (VL.up hβ hi h)
  |_,_,hi,.tup h=>.tup (VL.up hβ hi h)
  |_,_,_,.lnil=>.lnil
  |.lst e l,_,hi,.lst h1 h2 h3 h4 h5 h6 h7 h8=>by
    have q:=VL.up hβ (zlh hi) h3;rw [<- zz9] at q;have:=VT.lst (l:=T.renL ρ l) h1 h2 q (fun t ht=>by rw [zlw] at ht;obtain ⟨x,hx,rfl⟩:=List.mem_map.1 ht;rw [zur,zj7];exact h4 x hx) h5 h6 h7 (by rw [zj7];exact h8);rw [zj7] at this;exact this
  |_,_,_,.nils=>.nils
  |_,_,_,.nilp=>.nilp
  |_,_,_,.nilm=>.nilm
  |_,_,_,.nilf=>.nilf
  |_,_,hi,.ptr h=>.ptr (by rw [hβ _ (zac.1 hi)];exact h)
  |_,_,hi,.ptrOld h h0 h1 h2=>.ptrOld (by rw [hβ _ (zac.1 hi)];exact h) h0 h1 h2
  |_,_,hi,.cp h1 h2 h3 h4=>.cp h1 h2 (VL.up hβ hi h3) h4
  |_,_,hi,.arr h ht=>.arr (by rw [hβ _ (zac.1 hi)];exact h) ht
  |_,_,hi,.arrNil h=>.arrNil (by rw [hβ _ (zac.1 hi)];exact h)
  |_,_,hi,.arrOld h h0 h1 h2=>.arrOld (by rw [hβ _ (zac.1 hi)];exact h) h0 h1 h2
  |_,_,hi,.mp h=>.mp (by rw [hβ _ (zac.1 hi)];exact h)
  |_,_,hi,.mpOld h h2=>.mpOld (by rw [hβ _ (zac.1 hi)];exact h) h2
  |_,_,hi,.fn h1 h2=>by
    simp only [jg,dr] at hi;exact .fn (VL.up hβ hi.1 h1) (VL.up hβ hi.2 h2)
  |_,_,_,.junk v=>.junk v
  |_,_,_,.emp h1 h2 h3 h4=>.emp h1 h2 h3 h4
theorem VL.up (hβ:∀ b,b<n->β' (ρ b)=β b):∀ {l:List T} {vs:List Value},fy n l=true->VL A β g l vs->VL A β' g (T.renL ρ l) vs
  |_,_,_,.nil=>.nil
  |_,_,hi,.cons h k=>by
    simp only [fy,dr] at hi;exact .cons (VT.up hβ hi.1 h) (VL.up hβ hi.2 k)
end
mutual
theorem VT.down (hβ:∀ b,b<n->β' b=β (ρ b)):∀ {t':T} {v:Value},VT A β g t' v->∀ {t:T},t.ren ρ=t'->t.ids n=true->VT A β' g t v
  |_,_,.int k m,t,e,hi=>by
    cases t<;>simp [T.ren] at e;obtain ⟨rfl,rfl⟩:=e;exact .int _ _
  |_,_,.bool b,t,e,hi=>by
    cases t<;>simp [T.ren] at e;subst e;exact .bool _
  |_,_,.str b,t,e,hi=>by
    cases t<;>simp [T.ren] at e;subst e;exact .str _
  |_,_,.agg h,t,e,hi=>by
    cases t<;>simp [T.ren] at e;exact .agg (VL.down hβ h e hi)
  |_,_,.tup h,t,e,hi=>by
    cases t<;>simp [T.ren] at e;exact .tup (VL.down hβ h e hi)
  |_,_,.lnil,t,e,hi=>by
    cases t<;>simp [T.ren] at e;rename_i e' l;obtain ⟨rfl,e⟩:=e
    cases l with
    |nil=>exact .lnil
    |cons x l=>simp [T.renL] at e
  |_,_,.lst (l:=l') h1 h2 h3 h4 h5 h6 h7 h8,t,e,hi=>by
    cases t<;>simp [T.ren] at e;rename_i e' l;have q:=VL.down hβ h3 (l:=l.flatMap gd) (by rw [<- e.2];exact (zz9 l).symm) (zlh hi);obtain ⟨rfl,rfl⟩:=e;have:=VT.lst (l:=l) h1 h2 q (fun t ht=>by have:=h4 (t.ren ρ) (by rw [zlw];exact List.mem_map_of_mem ht);rw [zur,zj7] at this;exact this) h5 h6 h7 (by rw [zj7] at h8;exact h8);rw [zj7];exact this
  |_,_,.nils,t,e,hi=>by cases t<;>simp [T.ren] at e;exact .nils
  |_,_,.nilp,t,e,hi=>by cases t<;>simp [T.ren] at e;exact .nilp
  |_,_,.nilm,t,e,hi=>by cases t<;>simp [T.ren] at e;exact .nilm
  |_,_,.nilf,t,e,hi=>by cases t<;>simp [T.ren] at e;exact .nilf
  |_,_,.ptr h,t,e,hi=>by
    cases t<;>simp [T.ren] at e;obtain ⟨rfl,rfl,rfl⟩:=e;exact .ptr (by rw [hβ _ (zac.1 hi)];exact h)
  |_,_,.ptrOld h h0 h1 h2,t,e,hi=>by
    cases t<;>simp [T.ren] at e;obtain ⟨rfl,rfl,rfl⟩:=e;exact .ptrOld (by rw [hβ _ (zac.1 hi)];exact h) h0 h1 h2
  |_,_,.cp h1 h2 h3 h4,t,e,hi=>by
    cases t<;>simp [T.ren] at e;exact .cp h1 h2 (VL.down hβ h3 e hi) h4
  |_,_,.arr h ht,t,e,hi=>by
    cases t<;>simp [T.ren] at e;obtain ⟨rfl,rfl,rfl,rfl,rfl,rfl⟩:=e;exact .arr (by rw [hβ _ (zac.1 hi)];exact h) ht
  |_,_,.arrNil h,t,e,hi=>by
    cases t<;>simp [T.ren] at e;obtain ⟨rfl,rfl,rfl,rfl,rfl,rfl⟩:=e;exact .arrNil (by rw [hβ _ (zac.1 hi)];exact h)
  |_,_,.arrOld h h0 h1 h2,t,e,hi=>by
    cases t<;>simp [T.ren] at e;obtain ⟨rfl,rfl,rfl,rfl,rfl,rfl⟩:=e;exact .arrOld (by rw [hβ _ (zac.1 hi)];exact h) h0 h1 h2
  |_,_,.mp h,t,e,hi=>by
    cases t<;>simp [T.ren] at e;subst e;exact .mp (by rw [hβ _ (zac.1 hi)];exact h)
  |_,_,.mpOld h h2,t,e,hi=>by
    cases t<;>simp [T.ren] at e;subst e;exact .mpOld (by rw [hβ _ (zac.1 hi)];exact h) h2
  |_,_,.fn h1 h2,t,e,hi=>by
    cases t<;>simp [T.ren] at e;obtain ⟨rfl,e1,e2⟩:=e;simp only [jg,dr] at hi;exact .fn (VL.down hβ h1 e1 hi.1) (VL.down hβ h2 e2 hi.2)
  |_,_,.junk v,t,e,hi=>by cases t<;>simp [T.ren] at e;exact .junk _
  |_,_,.emp h1 h2 h3 h4,t,e,hi=>by
    cases t<;>simp [T.ren] at e;subst e;exact .emp h1 h2 h3 h4
theorem VL.down (hβ:∀ b,b<n->β' b=β (ρ b)):∀ {l':List T} {vs:List Value},VL A β g l' vs->∀ {l:List T},T.renL ρ l=l'->fy n l=true->VL A β' g l vs
  |_,_,.nil,l,e,hi=>by
    cases l with
    |nil=>exact .nil
    |cons x l=>simp [T.renL] at e
  |_,_,.cons h k,l,e,hi=>by
    cases l with
    |nil=>simp [T.renL] at e
    |cons x l =>
      simp only [T.renL,List.cons.injEq] at e;simp only [fy,dr] at hi;exact .cons (VT.down hβ h e.1 hi.1) (VL.down hβ k e.2 hi.2)
end
structure Fits (ρ:Nat->Nat) (S0 S1 S S':TS):Prop where
  le:S0.n<=S1.n
  out:∀ b,S0.n<=b->S0.box b=.gone
  old:∀ i,i<S0.n->ρ i<S.n
  new:∀ i,S0.n<=i->i<S1.n->S.n<=ρ i
  top:∀ i,i<S1.n->ρ i<S'.n
  grow:S.n<=S'.n
  inj:∀ i j,i<S1.n->j<S1.n->ρ i=ρ j->i=j
  pre:∀ i,i<S0.n->S.box (ρ i)=zoo ρ (S0.box i)/\zhs S0.n (S0.box i)=true
  post:∀ i,i<S1.n->S'.box (ρ i)=zoo ρ (S1.box i)/\zhs S1.n (S1.box i)=true
  rest:∀ b,(∀ i,i<S1.n->ρ i≠b)->S'.box b=S.box b
open Classical in
noncomputable def bmix (ρ:Nat->Nat) (m:Nat) (β1 β:Bx):Bx:=fun b=>if h:∃ i,i<m/\ρ i=b then β1 (Classical.choose h) else β b
theorem yon {m i:Nat} (hinj:∀ i j,i<m->j<m->ρ i=ρ j->i=j) (hi:i<m):bmix ρ m β1 β (ρ i)=β1 i:=by
  unfold bmix;have h:∃ j,j<m/\ρ j=ρ i:=⟨i,hi,rfl⟩;rw [dif_pos h];have:=Classical.choose_spec h;rw [hinj _ _ this.1 hi this.2]
theorem zi7 {m b:Nat} (h:∀ i,i<m->ρ i≠b):bmix ρ m β1 β b=β b:=by
  unfold bmix;rw [dif_neg (fun ⟨i,h1,h2⟩=>h i h1 h2)]
theorem z70 (l:List (T×T)):(l.map fun p=>(p.1.ren ρ,p.2.ren ρ)).map (·.1)=T.renL ρ (l.map (·.1)):=by
  rw [zlw,oh,oh];rfl
theorem z7z (l:List (T×T)):(l.map fun p=>(p.1.ren ρ,p.2.ren ρ)).map (·.2)=T.renL ρ (l.map (·.2)):=by
  rw [zlw,oh,oh];rfl
theorem Call.frame {f:FuncId} {args:List T} {v:T} (k:Call P Γ GL f args S0 v S1) (ha:fy S0.n args=true) (hv:v.ids S1.n=true) (F:Fits ρ S0 S1 S S'):Call P Γ GL f (T.renL ρ args) S (v.ren ρ) S':=by
  intro A β s vargs hT hva;have hb0:∀ b,b<S0.n->bcut (fun i=>β (ρ i)) S0.n b=β (ρ b):=fun b hb=>zAc hb
  have hb1:∀ b l,bcut (fun i=>β (ρ i)) S0.n b=some l->b<S0.n/\β (ρ b)=some l:=fun b l h=>by
    unfold bcut at h;split at h
    . rename_i hb;exact ⟨hb,h⟩
    . simp at h
  have hown:∀ f,Own (bcut (fun i=>β (ρ i)) S0.n) f->∃ i,i<S0.n/\((∃ u N,β (ρ i)=some (.live f u N))\/β (ρ i)=some (.map f)):=fun f ⟨b,hb⟩=>by
    rcases hb with ⟨u,N,hb⟩|hb
    . exact ⟨b,(hb1 _ _ hb).1,.inl ⟨u,N,(hb1 _ _ hb).2⟩⟩
    . exact ⟨b,(hb1 _ _ hb).1,.inr (hb1 _ _ hb).2⟩
  have hown2:∀ f,Own (bcut (fun i=>β (ρ i)) S0.n) f->Own β f:=fun f hf=>by
    obtain ⟨i,_,h⟩:=hown f hf;exact ⟨ρ i,h⟩
  have hT0:TRel GL A (bcut (fun i=>β (ρ i)) S0.n) S0 s:=by
    refine ⟨hT.inr,hT.inv,hT.alt,fun f hf=>hT.dis f (hown2 f hf),fun b b' l l' f h1 h2 h3 h4=>?_,fun b hb=>zAd (by omega),fun b z N l hb=>?_,fun b l hb=>?_,hT.glob⟩
    . obtain ⟨q1,q2⟩:=hb1 _ _ h1;obtain ⟨q3,q4⟩:=hb1 _ _ h2;exact F.inj b b' (by have:=F.le;omega) (by have:=F.le;omega) (hT.inj _ _ _ _ f q2 q4 h3 h4)
    . have hlt:b<S0.n:=by
        by_cases h:b<S0.n
        . exact h
        . rw [F.out b (by omega)] at hb;simp at hb
      obtain ⟨p1,p2⟩:=F.pre b hlt;rw [hb] at p1 p2;obtain ⟨c1,c2⟩:=hT.cells _ _ _ _ p1;refine ⟨by rw [zj7] at c1;exact c1,?_⟩;rcases c2 with ⟨d1,d2,d3⟩|⟨f,u,cs,rest,d1,d2,d3,d4,d5⟩
      . exact .inl ⟨by rw [hb0 b hlt];exact d1,d2,d3⟩
      . exact .inr ⟨f,u,cs,rest,by rw [hb0 b hlt];exact d1,d2,d3,VL.down hb0 d4 rfl p2,d5⟩
    . have hlt:b<S0.n:=by
        by_cases h:b<S0.n
        . exact h
        . rw [F.out b (by omega)] at hb;simp at hb
      obtain ⟨p1,p2⟩:=F.pre b hlt;rw [hb] at p1 p2;obtain ⟨r,es,c1,c2,c3,c4⟩:=hT.maps _ _ p1;simp only [zhs,dr] at p2;rw [z70] at c3;rw [z7z] at c4;exact ⟨r,es,by rw [hb0 b hlt];exact c1,c2,VL.down hb0 c3 rfl p2.1,VL.down hb0 c4 rfl p2.2⟩
  obtain ⟨w,s1,A1,β1,e1,e2,e3,e4⟩:=k A _ s vargs hT0 (VL.down hb0 hva rfl ha);have hin:∀ i,i<S1.n->bmix ρ S1.n β1 β (ρ i)=β1 i:=fun i hi=>yon F.inj hi
  have hcase:∀ b,(∃ i,i<S1.n/\ρ i=b)\/(∀ i,i<S1.n->ρ i≠b):=fun b=>by
    by_cases h:∃ i,i<S1.n/\ρ i=b
    . exact .inl h
    . exact .inr fun i hi hh=>h ⟨i,hi,hh⟩
  have hone:∀ i l,β1 i=some l->i<S1.n:=fun i l h=>by
    by_cases hh:i<S1.n
    . exact hh
    . rw [e2.next i (by omega)] at h;simp at h
  have apart:∀ b f,(∀ i,i<S1.n->ρ i≠b)->((∃ u N,β b=some (.live f u N))\/β b=some (.map f))->¬ Own (bcut (fun i=>β (ρ i)) S0.n) f:=fun b f hb hf ho=>by
    obtain ⟨j,hj,h⟩:=hown f ho
    have:ρ j=b:=by
      rcases h with ⟨u,N,h⟩|h<;>rcases hf with ⟨u',N',hf⟩|hf<;>exact hT.inj _ _ _ _ f h hf rfl rfl
    exact hb j (by have:=F.le;omega) this
  have hfamO:∀ b l f,β b=some l->l.fam=some f->((∃ u N,β b=some (.live f u N))\/β b=some (.map f)):=fun b l f h hl=>by
    cases l with
    |live f' u N=>simp [i4] at hl;subst hl;exact .inl ⟨u,N,h⟩
    |map r=>simp [i4] at hl;subst hl;exact .inr h
    |nil=>simp [i4] at hl
    |dead=>simp [i4] at hl
  have hfam1:∀ i l f,β1 i=some l->l.fam=some f->Own β1 f:=fun i l f h hl=>by
    cases l with
    |live f' u N=>simp [i4] at hl;subst hl;exact zci h
    |map r=>simp [i4] at hl;subst hl;exact zd2 h
    |nil=>simp [i4] at hl
    |dead=>simp [i4] at hl
  have hle:Bx.le β (bmix ρ S1.n β1 β):=fun b l hb=>by
    rcases hcase b with ⟨i,hi,rfl⟩|h
    . rw [hin i hi];by_cases hip:i<S0.n
      . exact e4.bx i l (by rw [hb0 i hip];exact hb)
      . rw [hT.next _ (F.new i (by omega) hi)] at hb;simp at hb
    . exact ⟨l,by rw [zi7 h];exact hb,Loc.le_refl l⟩
  have hkeep:∀ f,A f->zaa s1.obj f=zaa s.obj f:=fun f hf=>e4.keep f (hT.alt f hf) fun ho=>(hT.dis f (hown2 f ho)).2 hf
  have hmix:∀ f,Own (bmix ρ S1.n β1 β) f->Own β1 f\/∃ b,(∀ i,i<S1.n->ρ i≠b)/\((∃ u N,β b=some (.live f u N))\/β b=some (.map f)):=fun f ⟨b,hb⟩=>by
    rcases hcase b with ⟨i,hi,rfl⟩|h
    . rw [hin i hi] at hb;exact .inl ⟨i,hb⟩
    . rw [zi7 h] at hb;exact .inr ⟨b,h,hb⟩
  refine ⟨w,s1,A1,bmix ρ S1.n β1 β,e1,⟨e2.inr,e2.inv,e2.alt,fun f hf=>?_,fun b b' l l' f h1 h2 h3 h4=>?_,fun b hb=>?_,fun b z N l hb=>?_,fun b l hb=>?_,e2.glob⟩,VT.up hin hv e3,⟨e4.can,e4.sub,fun f hf=>(e4.new f hf).imp id (Or.imp id (hown2 f)),fun f hf=>?_,fun f hf ho=>e4.keep f hf fun h=>ho (hown2 f h),hle,fun x hx=>(e4.rd x hx).imp id (fun ⟨a,b⟩=>⟨a,b.imp id (hown2 x)⟩),fun x hx=>(e4.wr x hx).imp id (fun ⟨a,b⟩=>⟨a,hown2 x b⟩)⟩⟩
  . rcases hmix f hf with h|⟨b,hb,h⟩
    . exact e2.dis f h
    . have hd:=hT.dis f ⟨b,h⟩;refine ⟨ei hd.1 e4.can.n,fun hA=>?_⟩;rcases e4.new f hA with q|q|q
      . exact hd.2 q
      . have:=hd.1;omega
      . exact apart b f hb h q
  . have z5y:∀ i b l l',i<S1.n->(∀ i,i<S1.n->ρ i≠b)->β1 i=some l->β b=some l'->l.fam=some f->l'.fam=some f->False:=fun i b l l' hi hb q1 q2 q3 q4=>by
      have ho:=hfamO b l' f q2 q4;rcases e4.own f (hfam1 i l f q1 q3) with q|q
      . exact apart b f hb ho q
      . have:=(hT.dis f ⟨b,ho⟩).1;omega
    rcases hcase b with ⟨i,hi,rfl⟩|hb<;>rcases hcase b' with ⟨j,hj,rfl⟩|hb'
    . rw [hin i hi] at h1;rw [hin j hj] at h2;rw [e2.inj i j l l' f h1 h2 h3 h4]
    . rw [hin i hi] at h1;rw [zi7 hb'] at h2;exact (z5y i b' l l' hi hb' h1 h2 h3 h4).elim
    . rw [zi7 hb] at h1;rw [hin j hj] at h2;exact (z5y j b l' l hj hb h2 h1 h4 h3).elim
    . rw [zi7 hb] at h1;rw [zi7 hb'] at h2;exact hT.inj b b' l l' f h1 h2 h3 h4
  . rw [zi7 (fun i hi hh=>by have:=F.top i hi;omega)];exact hT.next b (by have:=F.grow;omega)
  . rcases hcase b with ⟨i,hi,rfl⟩|hbo
    . obtain ⟨p1,p2⟩:=F.post i hi;rw [hb] at p1
      cases hq:S1.box i with
      |gone=>rw [hq] at p1;simp [zoo] at p1
      |map m=>rw [hq] at p1;simp [zoo] at p1
      |cells z' N' l' =>
        rw [hq] at p1 p2;simp only [zoo,Box.cells.injEq] at p1;obtain ⟨rfl,rfl,rfl⟩:=p1;obtain ⟨c1,c2⟩:=e2.cells _ _ _ _ hq;refine ⟨by rw [zj7];exact c1,?_⟩;rcases c2 with ⟨d1,d2,d3⟩|⟨f,u,cs,rest,d1,d2,d3,d4,d5⟩
        . exact .inl ⟨by rw [hin i hi];exact d1,d2,d3⟩
        . exact .inr ⟨f,u,cs,rest,by rw [hin i hi];exact d1,d2,d3,VL.up hin p2 d4,d5⟩
    . rw [F.rest b hbo] at hb;refine (hT.cells b z N l hb).mono e4.sub hkeep hle (zi7 hbo) fun f u N' hl=>?_;exact e4.keep f (hT.dis f (zci hl)).1 (apart b f hbo (.inl ⟨u,N',hl⟩))
  . rcases hcase b with ⟨i,hi,rfl⟩|hbo
    . obtain ⟨p1,p2⟩:=F.post i hi;rw [hb] at p1
      cases hq:S1.box i with
      |gone=>rw [hq] at p1;simp [zoo] at p1
      |cells z N m=>rw [hq] at p1;simp [zoo] at p1
      |map m =>
        rw [hq] at p1 p2;simp only [zoo,Box.map.injEq] at p1;subst p1;obtain ⟨r,es,c1,c2,c3,c4⟩:=e2.maps _ _ hq;simp only [zhs,dr] at p2;exact ⟨r,es,by rw [hin i hi];exact c1,c2,by rw [z70];exact VL.up hin p2.1 c3,by rw [z7z];exact VL.up hin p2.2 c4⟩
    . rw [F.rest b hbo] at hb;refine (hT.maps b l hb).mono e4.sub hkeep hle (zi7 hbo) fun r hl=>?_;exact e4.keep r (hT.dis r (zd2 hl)).1 (apart b r hbo (.inr hl))
  . rcases hmix f hf with h|⟨b,hb,h⟩
    . exact (e4.own f h).imp (hown2 f) id
    . exact .inl ⟨b,h⟩
end
theorem zad {α β:Type} {x:Option α} {f:α->Option β} {v:β} (h:x.bind f=some v):∃ a,x=some a/\f a=some v:=by
  cases x with
  |none=>cases h
  |some a=>exact ⟨a,rfl,h⟩
def gx {α:Type} [Inhabited α] (l:List α) (i:Int):α:=l.getD i.toNat default
theorem zae {α:Type} [Inhabited α] {l:List α} {i:Int} (h:0<=i/\i<(l.length:Int)):l[i.toNat]?=some (gx l i):=yi7 (by omega)
def bx (b:ByteArray) (i:Int):UInt8:=b.data.toList.getD i.toNat 0
theorem zwa {b:ByteArray} {i:Int} (h:0<=i/\i<(b.size:Int)):b.data.toList[i.toNat]?=some (bx b i):=by
  have : i.toNat < b.data.toList.length := by have e : b.data.toList.length = b.size := by simp
                                              omega
  unfold bx;rw [ef,dv this];rfl
def vecC {α:Type} (f:α->T) (l:List α):List T:=(l.map f).flatMap gd
theorem zc5 {α:Type} {f:α->T} {l l2:List α}:vecC f (l++l2)=vecC f l++vecC f l2:=by
  unfold vecC;rw [na,List.flatMap_append]
theorem z63 {α:Type} {f:α->T} {e:Nat} (h:∀ x,(f x).cells.length=e):∀ (l:List α),(vecC f l).length=l.length*e
  |[]=>by simp [vecC]
  |x :: l=>by
    have ih:=z63 h l;unfold vecC at ih ⊢;rw [gb,ij,er,h,ih,eh,ig];omega
theorem ztw {α:Type} {f:α->T} {e n:Nat} {l:List α} (h:∀ x,(f x).cells.length=e) (hl:l.length=n):(vecC f l).take (n*e)=(l.map f).flatMap gd:=by
  have:=z63 h l;rw [fk (by rw [this,hl];exact dz _)];rfl
theorem ziw {k:fx} {l:List Int}:(l.map (dy k)).flatMap gd=l.map (dy k):=zfz fun _=>rfl
theorem zgg {l:List Bool}:(l.map oy).flatMap gd=l.map oy:=zfz fun _=>rfl
theorem ziv {l:List ByteArray}:(l.map l6).flatMap gd=l.map l6:=zfz fun _=>rfl
theorem ziz {k:fx} {l:List Int}:(l.map (dy k)).all jn=true:=by simp [jn]
theorem zgi {l:List Bool}:(l.map oy).all jn=true:=by simp [jn]
theorem ziy {l:List ByteArray}:(l.map l6).all jn=true:=by simp [jn]
section
variable {GL:List (Nat×List Value)} {A A' A2:Nat->Prop} {β β' β2:Bx} {S S' S2:TS} {s s' s2:CS} {P:ep} {Γ:Env} {N:Nat} {h h' h2:Nat->T} {Q R:Exit->(Nat->T)->TS->Prop}
theorem Left.trimN {fr fr':Fr} {keep:List Nat} {bs bs2 extra:List Box} {n:Nat} (hn:bs.length<=n) (hT:TRel GL A β (stL bs) s) (k:Left GL A β s N fr' s' h' (stL (bs2++extra))) (hl:bs2.length=n) (hb:zf5 n bs2=true) (hk:zir keep n h'):Left GL A β s N fr' s' (z0l keep h') (stL bs2):=by
  obtain ⟨A',β',k1,k2,k3⟩:=k;have hat:∀ b,b<n->bcut β' n b=β' b:=fun b hb=>zAc hb
  have hsub:∀ b l,bcut β' n b=some l->β' b=some l:=fun b l h=>by
    unfold bcut at h;split at h
    . exact h
    . simp at h
  have hkp:zww (stL (bs2++extra)) (stL bs2):=by
    refine ⟨by simp [stL],fun b=>?_⟩;by_cases hbl:b<bs2.length
    . refine .inr ⟨hbl,?_,?_⟩
      . show bs2.getD b .gone=(bs2++extra).getD b .gone;rw [ef,ef,eu hbl]
      . show zhs bs2.length ((bs2++extra).getD b .gone)=true;rw [ef,eu hbl,<- ef,hl];exact zsu hb
    . left;show bs2.getD b .gone=.gone;rw [ef,ic (by omega)];rfl
  have hcut:=k2.cut hkp;have hnn:(stL bs2).n=n:=hl;rw [hnn] at hcut;refine ⟨A',bcut β' n,⟨k1.nt,k1.le,fun t=>?_⟩,hcut,k3.can,k3.sub,k3.new,fun f hf=>?_,k3.keep,fun b l hb'=>?_,k3.rd,k3.wr⟩
  . by_cases ht:t∈keep
    . rw [zny ht];exact (k1.slot t).ids hat (zpc hk t ht)
    . rw [show z0l keep h' t=.junk from zAd ht];exact .junk _
  . obtain ⟨b,hb'⟩:=hf;exact k3.own f ⟨b,hb'.imp (fun ⟨u,N,h⟩=>⟨u,N,hsub _ _ h⟩) fun h=>hsub _ _ h⟩
  . obtain ⟨l',c1,c2⟩:=k3.bx b l hb'
    have:b<bs.length:=by
      by_cases hh:b<bs.length
      . exact hh
      . rw [hT.next b (by show bs.length<=b;omega)] at hb';simp at hb'
    exact ⟨l',by rw [hat b (by omega)];exact c1,c2⟩
theorem TW.cutN {a:Code} (keep:List Nat) (n:Nat) {bs:List Box} (hn:bs.length<=n) (R:(Nat->T)->List Box->Prop) (hR:TW P Γ GL N a h (stL bs) (onT (fun h' S'=>Ends keep n R h' S') Q)) (hk:∀ h bs2,R h bs2->Q .normal h (stL bs2)):TW P Γ GL N a h (stL bs) Q:=by
  intro A β fr s hF hT;obtain ⟨e,fr1,s1,h1,h',S',hleft,hq⟩:=hR A β fr s hF hT
  cases e with
  |normal =>
    obtain ⟨bs',rfl,hl,hbi,hki,hq⟩:=hq;exact ⟨_,fr1,s1,h1,_,_,Left.trimN (fr:=fr) (keep:=keep) (bs2:=bs'.take n) (extra:=bs'.drop n) hn hT (by rw [iq];exact hleft) (by rw [fi];omega) hbi hki,hk _ _ hq⟩
  |_=>exact ⟨_,fr1,s1,h1,h',S',hleft,hq⟩
theorem TW.slot {c:Code} (t:Nat) {v v':T} (ht:h t=v) (hv:∀ A β (g:Nat->Fam) w,VT A β g v w->VT A β g v' w) (k:TW P Γ GL N c (tupd h t v') S Q):TW P Γ GL N c h S Q:=by
  intro A β fr s hF hT
  have hF':FrOk A β (zaa s.obj) N (tupd h t v') fr:=⟨hF.nt,hF.le,fun u=>by
    by_cases hu:u=t
    . subst hu;rw [zjn];have:=hF.slot u;rw [ht] at this;exact hv _ _ _ _ this
    . rw [zo1 _ _ _ _ hu];exact hF.slot u⟩
  exact k A β fr s hF' hT
theorem TW.nilL {c:Code} (t e:Nat) (ht:h t=.nils) (k:TW P Γ GL N c (tupd h t (.lst e [])) S Q):TW P Γ GL N c h S Q:=by
  intro A β fr s hF hT;have hv:=hF.slot t;rw [ht] at hv
  have hF':FrOk A β (zaa s.obj) N (tupd h t (.lst e [])) fr:=⟨hF.nt,hF.le,fun u=>by
    by_cases hu:u=t
    . subst hu;rw [zjn];generalize fr.get u=w at hv;cases hv;exact .lnil
    . rw [zo1 _ _ _ _ hu];exact hF.slot u⟩
  exact k A β fr s hF' hT
mutual
theorem z8s {n m:Nat} (hnm:n<=m):∀ {t:T},t.ids n=true->t.ids m=true
  |.agg l,h=>zba hnm (l:=l) h
  |.tup l,h=>zba hnm (l:=l) h
  |.lst e l,h=>zba hnm (l:=l) h
  |.cp l,h=>zba hnm (l:=l) h
  |.ptr b o N,h=>by simp only [jg] at h ⊢;exact zac.2 (by have:=zac.1 h;omega)
  |.arr b e o l c N,h=>by simp only [jg] at h ⊢;exact zac.2 (by have:=zac.1 h;omega)
  |.mp b,h=>by simp only [jg] at h ⊢;exact zac.2 (by have:=zac.1 h;omega)
  |.fn f a c,h=>by
    simp only [jg,dr] at h ⊢;exact ⟨zba hnm h.1,zba hnm h.2⟩
  |.int _ _,_=>rfl
  |.bool _,_=>rfl
  |.str _,_=>rfl
  |.nils,_=>rfl
  |.nilp,_=>rfl
  |.nilm,_=>rfl
  |.nilf,_=>rfl
  |.junk,_=>rfl
  |.emp _,_=>rfl
theorem zba {n m:Nat} (hnm:n<=m):∀ {l:List T},fy n l=true->fy m l=true
  |[],_=>rfl
  |t :: l,h=>by
    simp only [fy,dr] at h ⊢;exact ⟨z8s hnm h.1,zba hnm h.2⟩
end
mutual
theorem ypl {ρ:Nat->Nat}:∀ {t:T},t.ids 0=true->t.ren ρ=t
  |.agg l,h=>by rw [T.ren,zlv (l:=l) h]
  |.tup l,h=>by rw [T.ren,zlv (l:=l) h]
  |.lst e l,h=>by rw [T.ren,zlv (l:=l) h]
  |.cp l,h=>by rw [T.ren,zlv (l:=l) h]
  |.ptr b o N,h=>by simp [jg,Nat.blt] at h
  |.arr b e o l c N,h=>by simp [jg,Nat.blt] at h
  |.mp b,h=>by simp [jg,Nat.blt] at h
  |.fn f a c,h=>by
    simp only [jg,dr] at h;rw [T.ren,zlv (l:=a) h.1,zlv (l:=c) h.2]
  |.int _ _,_=>rfl
  |.bool _,_=>rfl
  |.str _,_=>rfl
  |.nils,_=>rfl
  |.nilp,_=>rfl
  |.nilm,_=>rfl
  |.nilf,_=>rfl
  |.junk,_=>rfl
  |.emp _,_=>rfl
theorem zlv {ρ:Nat->Nat}:∀ {l:List T},fy 0 l=true->T.renL ρ l=l
  |[],_=>rfl
  |t :: l,h=>by
    simp only [fy,dr] at h;rw [T.renL,ypl h.1,zlv h.2]
end
theorem zww.one {z:Bool} {M:Nat} {cs:List T} (h:fy 1 cs=true):zww (stL [.cells z M cs]) (stL [.cells z M cs]):=by
  refine ⟨dz _,fun b=>?_⟩
  cases b with
  |zero=>exact .inr ⟨by show 0<1;omega,rfl,h⟩
  |succ b=>exact .inl rfl
theorem Call.fresh {f:FuncId} {args:List T} {e n c M:Nat} {z:Bool} {M2:Nat} {cs:List T} (k:Call P Γ GL f args ts0 (.arr 0 e 0 n c M) (stL [.cells z M2 cs])) (ha:fy 0 args=true) (hb:fy 0 cs=true) (bs:List Box):Call P Γ GL f args (stL bs) (.arr bs.length e 0 n c M) (stL (bs++[.cells z M2 cs])):=by
  have:=Call.frame (ρ:=fun i=>bs.length+i) (S:=stL bs) (S':=stL (bs++[.cells z M2 cs])) k ha (by rfl) ⟨fw _,fun b _=>rfl,fun i hi=>absurd hi (by show ¬ i<0;omega),fun i _ hi=>by show bs.length<=bs.length+i;omega,fun i hi=>by have:i<1:=hi;show bs.length+i<(bs++[_]).length;rw [er];simp;omega,by show bs.length<=(bs++[_]).length;simp,fun i j _ _ h=>by have:bs.length+i=bs.length+j:=h;omega,fun i hi=>absurd hi (by show ¬ i<0;omega),fun i hi=>?_,fun b hb=>?_⟩
  . rw [zlv ha] at this;exact this
  . have:i<1:=hi;have:i=0:=by omega
    subst this;constructor
    . show (bs++[Box.cells z M2 cs]).getD (bs.length+0) .gone=.cells z M2 (T.renL _ cs);rw [zlv hb,gm,ef,fq (dz _)];simp
    . show fy 1 cs=true
      exact z8w fun t ht=>by
        have:=yfm hb t ht;exact z8s (fw _) this
  . show (bs++[Box.cells z M2 cs]).getD b .gone=bs.getD b .gone;by_cases hlt:b<bs.length
    . rw [ef,ef,eu hlt]
    . by_cases h2:b=bs.length
      . exact absurd (h2 ▸ rfl:bs.length+0=b) (hb 0 (by show 0<1;omega))
      . rw [ef,ef,ic (by rw [er];simp;omega),ic (by omega)]
end
def mset {K V:Type} [DecidableEq K] (k:K) (v:V):List (K×V)->List (K×V)
  |[]=>[(k,v)]
  |p :: l=>if k=p.1 then (k,v) :: l else p :: mset k v l
def mget {K V:Type} [DecidableEq K] (k:K):List (K×V)->Option V
  |[]=>none
  |p :: l=>if k=p.1 then some p.2 else mget k l
theorem keyI {kk:fx} {a b:Int}:zr3 (.int kk a) (.int kk b)=some (decide (a=b)):=by
  show (bif Nat.beq (ikN kk) (ikN kk) then some (a == b) else none)=_;rw [gw,cond_true];by_cases h:a=b<;>simp [h]
theorem keyS {a b:ByteArray}:zr3 (.str a) (.str b)=some (decide (a=b)):=by
  show some (a.data.toList == b.data.toList)=_;by_cases h:a=b
  . subst h;simp
  . have:(a.data.toList == b.data.toList)=false:=by simpa using fun hh=>h (ByteArray.ext hh)
    rw [this,zAb h]
theorem zzn {K V:Type} [DecidableEq K] {kf:K->T} {f:V->T} (hk:∀ a b,zr3 (kf a) (kf b)=some (decide (a=b))) (k:K) (v:V):∀ l:List (K×V),tSet (kf k) (f v) (l.map fun p=>(kf p.1,f p.2))=some ((mset k v l).map fun p=>(kf p.1,f p.2))
  |[]=>rfl
  |p :: l=>by
    rw [gb,tSet,hk];unfold mset;by_cases h:k=p.1
    . rw [zAa h,zAc h,gb]
    . rw [zAb h,zAd h,gb];simp only [zzn hk k v l]
theorem zzo {K V:Type} [DecidableEq K] {kf:K->T} {f:V->T} (hk:∀ a b,zr3 (kf a) (kf b)=some (decide (a=b))) (k:K):∀ l:List (K×V),tGet (kf k) (l.map fun p=>(kf p.1,f p.2))=some ((mget k l).map f)
  |[]=>rfl
  |p :: l=>by
    rw [gb,tGet,hk];unfold mget;by_cases h:k=p.1
    . rw [zAa h,zAc h];rfl
    . rw [zAb h,zAd h];exact zzo hk k l
theorem zea {kk:fx} {V:Type} {f:V->T} {k:Int} {v:V} {l:List (Int×V)}:tSet (.int kk k) (f v) (l.map fun p=>(.int kk p.1,f p.2))=some ((mset k v l).map fun p=>(.int kk p.1,f p.2)):=zzn (kf:=dy kk) (fun _ _=>keyI) k v l
theorem zec {kk:fx} {V:Type} {f:V->T} {k:Int} {l:List (Int×V)}:tGet (.int kk k) (l.map fun p=>(.int kk p.1,f p.2))=some ((mget k l).map f):=zzo (kf:=dy kk) (fun _ _=>keyI) k l
theorem zd9 {V:Type} {f:V->T} {k:ByteArray} {v:V} {l:List (ByteArray×V)}:tSet (.str k) (f v) (l.map fun p=>(.str p.1,f p.2))=some ((mset k v l).map fun p=>(.str p.1,f p.2)):=zzn (kf:=l6) (fun _ _=>keyS) k v l
theorem zeb {V:Type} {f:V->T} {k:ByteArray} {l:List (ByteArray×V)}:tGet (.str k) (l.map fun p=>(.str p.1,f p.2))=some ((mget k l).map f):=zzo (kf:=l6) (fun _ _=>keyS) k l
theorem zge {V:Type} {f:V->T} {d:V} {o:Option V}:zsm false (f d) (o.map f)=f (o.getD d):=by cases o<;>rfl
theorem zgd {V:Type} {f:V->T} {d:V} {o:Option V}:zsm true (f d) (o.map f)=.tup [f (o.getD d),.bool o.isSome]:=by cases o<;>rfl
theorem yi3:type_of% (dm (dm (dm (@zag) (dm (@iw) (@mj))) (dm (@yaa) (dm (@et) (@and_self)))) (dm (dm (@and_true) (dm (@true_and) (@jy.{0}))) (dm (dm (@ky.{0}) (@eh.{0})) (dm (@gh.{0}) (@fz))))):=dm (dm (dm (@zag) (dm (@iw) (@mj))) (dm (@yaa) (dm (@et) (@and_self)))) (dm (dm (@and_true) (dm (@true_and) (@jy.{0}))) (dm (dm (@ky.{0}) (@eh.{0})) (dm (@gh.{0}) (@fz))))
theorem zfx:type_of% (dm (dm (dm (@jg.eq_1) (dm (@jg.eq_2) (@jg.eq_3))) (dm (@jg.eq_4) (dm (@jg.eq_5) (@jg.eq_6)))) (dm (dm (@jg.eq_7) (dm (@jg.eq_8) (@jg.eq_9))) (dm (@fy.eq_1) (dm (@fy.eq_2) (@zcf))))):=dm (dm (dm (@jg.eq_1) (dm (@jg.eq_2) (@jg.eq_3))) (dm (@jg.eq_4) (dm (@jg.eq_5) (@jg.eq_6)))) (dm (dm (@jg.eq_7) (dm (@jg.eq_8) (@jg.eq_9))) (dm (@fy.eq_1) (dm (@fy.eq_2) (@zcf))))
theorem zfw:type_of% (dm (dm (@zf5.eq_1) (dm (@zf5.eq_2) (@zhs.eq_1))) (dm (dm (@zhs.eq_2) (@zhs.eq_3)) (dm (@zir.eq_1) (@zir.eq_2)))):=dm (dm (@zf5.eq_1) (dm (@zf5.eq_2) (@zhs.eq_1))) (dm (dm (@zhs.eq_2) (@zhs.eq_3)) (dm (@zir.eq_1) (@zir.eq_2)))
theorem scA:type_of% (dm (@nd.{0}) (@ke.{0})):=dm (@nd.{0}) (@ke.{0})
theorem scB:type_of% (dm (dm (@st_n) (dm (@eh.{0}) (@gh.{0}))) (dm (@fd.{0}) (dm (@ff.{0}) (@fz)))):=dm (dm (@st_n) (dm (@eh.{0}) (@gh.{0}))) (dm (@fd.{0}) (dm (@ff.{0}) (@fz)))
theorem gsA:type_of% (dm (dm (@zcf) (dm (@na.{0,0}) (@gb.{0,0}))) (dm (@oz.{0,0}) (dm (@ig) (@mr)))):=dm (dm (@zcf) (dm (@na.{0,0}) (@gb.{0,0}))) (dm (@oz.{0,0}) (dm (@ig) (@mr)))
structure Ar (n:Nat) where
  l:List Int
  h:l.length=n
deriving DecidableEq
instance {n:Nat}:Inhabited (Ar n):=⟨⟨ew n 0,ml⟩⟩
theorem Ar.ext' {n:Nat} {a b:Ar n} (h:a.l=b.l):a=b:=by cases a;cases b;cases h;rfl
theorem Ar.eq_iff {n:Nat} {a b:Ar n}:a=b↔a.l=b.l:=⟨fun h=>by rw [h],Ar.ext'⟩
def zA (n:Nat):Ar n:=⟨ew n 0,ml⟩
def zVs (n:Nat) (k:fx):List Value:=ew n (.int k 0)
theorem yoz {n:Nat} {k:fx}:zf6 (zVs n k)=some ((zA n).l.map (dy k)):=by
  show zf6 (ew n (.int k 0))=some ((ew n 0).map (dy k))
  induction n with
  |zero=>rfl
  |succ n ih=>rw [gu,gu,gb];unfold zf6;rw [ih];rfl
def eAr (k:fx) {n:Nat} (a:Ar n):T:=.agg (a.l.map (dy k))
theorem ygx {k:fx} {n:Nat} (a:Ar n):(eAr k a).cells=a.l.map (dy k):=d6 rfl rfl
theorem zpf {k:fx} {n:Nat} (a:Ar n):(eAr k a).cells.length=n:=by rw [ygx,ec,a.h]
theorem z0z {k:fx}:∀ (l:List Int),(l.map (dy k)).all jn=true
  |[]=>rfl
  |x :: l=>by rw [gb,ii,z0z l];rfl
theorem zdz {k:fx} {m:Nat}:∀ (l:List Int),fy m (l.map (dy k))=true
  |[]=>rfl
  |x :: l=>by simp only [gb,fy,jg,zdz l,et]
theorem z8v {k:fx} {m n:Nat} (a:Ar n):(eAr k a).ids m=true:=zdz a.l
section
variable {P:ep}
theorem yf2 (len:Nat) (β:Type) (b:β) (f:Nat->β->Sem (ForInStep β)):(forIn [0:len] b f:Sem β)=forIn (n8 0 len) b f:=by
  rw [Std.Legacy.Range.forIn_eq_forIn_range'];simp [Std.Legacy.Range.size]
theorem zp1 {k:fx}:∀ (l:List Int),zf8 (l.map (dy k))=some (l.map (ju k))
  |[]=>rfl
  |x :: l=>by rw [gb];unfold zf8;rw [zp1 l];rfl
variable {Γ:Env} {S:TS} {t:ed} {x y:d8}
end
section
variable {GL:List (Nat×List Value)} {A A' A2:Nat->Prop} {β β' β2:Bx} {S S' S2:TS} {s s' s2:CS} {P:ep} {Γ:Env} {N:Nat} {h h' h2:Nat->T} {Q R:Exit->(Nat->T)->TS->Prop}
theorem VL.setAt {g:Nat->Fam} {t:T} {v:Value}:∀ {l:List T} {vs:List Value} {i:Nat},VL A β g l vs->vs[i]?=some v->VT A β g t v->VL A β g (l.set i t) vs
  |[],_,_,.nil,_,_=>.nil
  |x :: l,y :: vs,0,.cons k1 k2,hv,ht=>by
    simp only [fl,dp] at hv;subst hv;exact .cons ht k2
  |x :: l,y :: vs,i+1,.cons k1 k2,hv,ht=>.cons k1 (VL.setAt k2 (by simpa using hv) ht)
theorem TW.nilC {c:Code} (c0 i e:Nat) {N0:Nat} {z0:Bool} {l0:List T} (hS0:S.box c0=.cells z0 N0 l0) (hi:l0[i]?=some .nils) (k:TW P Γ GL N c h (S.set c0 (.cells z0 N0 (l0.set i (.lst e [])))) Q):TW P Γ GL N c h S Q:=by
  intro A β fr s hF hT;obtain ⟨n0,hc⟩:=hT.cells c0 z0 N0 l0 hS0;have hi0:i<l0.length:=(d9.1 hi).1
  have hnew:zr1 A β (zaa s.obj) c0 z0 N0 (l0.set i (.lst e [])):=by
    rcases hc with ⟨_,q,_⟩|⟨f,u,cs,rest,a1,a2,a3,a4,a5⟩
    . omega
    . obtain ⟨v,v1,v2⟩:=a4.get hi;refine ⟨by rw [od];exact n0,.inr ⟨f,u,cs,rest,a1,a2,a3,a4.setAt v1 ?_,a5⟩⟩;cases v2;exact .lnil
  have hT':TRel GL A β (S.set c0 (.cells z0 N0 (l0.set i (.lst e [])))) s:=by
    refine ⟨hT.inr,hT.inv,hT.alt,hT.dis,hT.inj,hT.next,fun b' z N' l' hb'=>?_,fun b' l' hb'=>?_,hT.glob⟩
    . by_cases e2:b'=c0
      . subst e2;rw [g0] at hb';cases hb';exact hnew
      . rw [gl _ _ e2] at hb';exact hT.cells b' z N' l' hb'
    . by_cases e2:b'=c0
      . subst e2;rw [g0] at hb';cases hb'
      . rw [gl _ _ e2] at hb';exact hT.maps b' l' hb'
  exact k A β fr s hF hT'
theorem TW.vecC {c:Code} (c0 i e:Nat) {N0:Nat} {z0:Bool} {l0:List T} (hS0:S.box c0=.cells z0 N0 l0) (hi:l0[i]?=some .nils) (h0:c0<S.n) (k:TW P Γ GL N c h ((S.set c0 (.cells z0 N0 (l0.set i (.arr S.n e 0 0 0 0)))).add (.cells false 0 [])) Q):TW P Γ GL N c h S Q:=by
  intro A β fr s hF hT;have hb0:β S.n=none:=hT.next _ (dz _)
  have hle:Bx.le β (bnew β S.n .nil):=zwc hb0;have hse:bnew β S.n .nil S.n=some .nil:=zAc rfl;have hne:∀ b',b'≠S.n->bnew β S.n .nil b'=β b':=fun b' hb'=>zAd hb'
  have hown:∀ f,Own (bnew β S.n .nil) f->Own β f:=fun f ⟨b',hb'⟩=>by
    by_cases hi:b'=S.n
    . subst hi;rw [hse] at hb';rcases hb' with ⟨u,N,hb'⟩|hb'<;>simp at hb'
    . rw [hne b' hi] at hb';exact ⟨b',hb'⟩
  have hst:Stp A β s A (bnew β S.n .nil) s:=⟨Can.refl _,fun _ h=>h,fun _ h=>.inl h,fun f hf=>.inl (hown f hf),fun _ _ _=>rfl,hle,fun _ h=>.inl h,fun _ h=>.inl h⟩;obtain ⟨n0,hc⟩:=hT.cells c0 z0 N0 l0 hS0;have hi0:i<l0.length:=(d9.1 hi).1
  have hnew:zr1 A (bnew β S.n .nil) (zaa s.obj) c0 z0 N0 (l0.set i (.arr S.n e 0 0 0 0)):=by
    rcases hc with ⟨_,q,_⟩|⟨f,u,cs,rest,a1,a2,a3,a4,a5⟩
    . omega
    . obtain ⟨v,v1,v2⟩:=a4.get hi;have a4':=a4.mono (A':=A) (β':=bnew β S.n .nil) (g':=zaa s.obj) (fun _ h=>h) (fun _ _=>rfl) hle;refine ⟨by rw [od];exact n0,.inr ⟨f,u,cs,rest,by rw [hne c0 (by omega)];exact a1,a2,a3,a4'.setAt v1 ?_,a5⟩⟩;cases v2;exact .arrNil hse
  have hT':TRel GL A (bnew β S.n .nil) ((S.set c0 (.cells z0 N0 (l0.set i (.arr S.n e 0 0 0 0)))).add (.cells false 0 [])) s:=by
    refine ⟨hT.inr,hT.inv,hT.alt,fun f hf=>hT.dis f (hown f hf),fun b1 b2 l1 l2 f h1 h2 h3 h4=>?_,fun b' hb'=>?_,fun b' z N l hb'=>?_,fun b' l hb'=>?_,hT.glob⟩
    . by_cases e1:b1=S.n
      . subst e1;rw [hse] at h1;cases h1;simp [i4] at h3
      . by_cases e2:b2=S.n
        . subst e2;rw [hse] at h2;cases h2;simp [i4] at h4
        . rw [hne b1 e1] at h1;rw [hne b2 e2] at h2;exact hT.inj b1 b2 l1 l2 f h1 h2 h3 h4
    . have:S.n+1<=b':=hb';rw [hne b' (by omega)];exact hT.next b' (by omega)
    . by_cases hi:b'=S.n
      . subst hi;have hq:=(TS.add_same (S.set c0 (.cells z0 N0 (l0.set i (.arr S.n e 0 0 0 0)))) (.cells false 0 [])).symm.trans hb';cases hq;exact ⟨rfl,.inl ⟨hse,rfl,rfl⟩⟩
      . rw [TS.add_ne _ _ (show b'≠(S.set c0 (.cells z0 N0 (l0.set i (.arr S.n e 0 0 0 0)))).n from hi)] at hb';by_cases e2:b'=c0
        . subst e2;rw [g0] at hb';cases hb';exact hnew
        . rw [gl _ _ e2] at hb';exact (hT.cells b' z N l hb').mono (fun _ h=>h) (fun _ _=>rfl) hle (hne b' hi) fun _ _ _ _=>rfl
    . by_cases hi:b'=S.n
      . subst hi;have hq:=(TS.add_same (S.set c0 (.cells z0 N0 (l0.set i (.arr S.n e 0 0 0 0)))) (.cells false 0 [])).symm.trans hb';cases hq
      . rw [TS.add_ne _ _ (show b'≠(S.set c0 (.cells z0 N0 (l0.set i (.arr S.n e 0 0 0 0)))).n from hi)] at hb';by_cases e2:b'=c0
        . subst e2;rw [g0] at hb';cases hb'
        . rw [gl _ _ e2] at hb';exact (hT.maps b' l hb').mono (fun _ h=>h) (fun _ _=>rfl) hle (hne b' hi) fun _ _=>rfl
  have hF':FrOk A (bnew β S.n .nil) (zaa s.obj) N h fr:=⟨hF.nt,hF.le,fun u=>hst.vt hT (hF.slot u)⟩;refine (k A _ fr s hF' hT').mono ?_;rintro e2 fr2 s2 ⟨h2,S2,l2,q2⟩;exact ⟨h2,S2,mb (h':=h) (fr':=fr) hT.le hst l2,q2⟩
end
def Le1:List T->List T->Prop
  |[],[]=>True
  |t :: l,t' :: l'=>(t=t'\/(t=.nils/\∃ e,t'=.lst e []))/\Le1 l l'
  |_,_=>False
def Le2:List T->List T->Prop
  |[],[]=>True
  |t :: l,t' :: l'=>(t=t'\/(t=.nils/\∃ e,t'=.lst e [])\/∃ m m',t=.agg m/\t'=.agg m'/\Le1 m m')/\Le2 l l'
  |_,_=>False
theorem Le1.vl {A:Nat->Prop} {β:Bx} {g:Nat->Fam}:∀ {l l':List T} {vs:List Value},Le1 l l'->VL A β g l vs->VL A β g l' vs
  |[],[],_,_,.nil=>.nil
  |t :: l,t' :: l',_,h,.cons k1 k2=>by
    obtain ⟨h1,h2⟩:=h;rcases h1 with rfl|⟨rfl,e,rfl⟩
    . exact .cons k1 (Le1.vl h2 k2)
    . cases k1;exact .cons .lnil (Le1.vl h2 k2)
theorem Le2.vl {A:Nat->Prop} {β:Bx} {g:Nat->Fam}:∀ {l l':List T} {vs:List Value},Le2 l l'->VL A β g l vs->VL A β g l' vs
  |[],[],_,_,.nil=>.nil
  |t :: l,t' :: l',_,h,.cons k1 k2=>by
    obtain ⟨h1,h2⟩:=h;rcases h1 with rfl|⟨rfl,e,rfl⟩|⟨m,m',rfl,rfl,h3⟩
    . exact .cons k1 (Le2.vl h2 k2)
    . cases k1;exact .cons .lnil (Le2.vl h2 k2)
    . cases k1 with|agg k=>exact .cons (.agg (h3.vl k)) (Le2.vl h2 k2)
theorem Ar.len {n:Nat} (a:Ar n):a.l.length=n:=a.h
def Ar.set {n:Nat} (a:Ar n) (i v:Int):Ar n:=⟨a.l.set i.toNat v,by rw [od,a.h]⟩
theorem ygw {k:fx} {n:Nat} (a:Ar n):eAr k a=.agg (a.l.map (dy k)):=d6 rfl rfl
theorem arIx {n:Nat} (a:Ar n) {i:Int} (h:0<=i/\i<(n:Int)):a.l[i.toNat]?=some (gx a.l i):=zae (by rw [a.h];exact h)
theorem arSpl {k:fx} {n:Nat} (a b:Ar n):spl (a.l.map (dy k)) 0 (b.l.map (dy k))=b.l.map (dy k):=by
  unfold spl;rw [ky,ff,il (by rw [ec,ec,a.h,b.h];omega),fj]
theorem yos {k:fx} {n:Nat} (a:Ar n) {i:Int} (v:Int) (h:0<=i/\i<(n:Int)):spl (a.l.map (dy k)) i.toNat [dy k v]=(a.set i v).l.map (dy k):=by
  exact ynf (f:=dy k) (v:=v) (L:=a.l) (i:=i.toNat) (by rw [a.h];omega)
def u8o (z:Int):UInt8:=UInt8.ofNat z.toNat
def strL (l:List Int):ByteArray:=⟨(l.map u8o).toArray⟩
def bytL (s:ByteArray):List Int:=s.data.toList.map fun c=>(c.toNat:Int)
theorem z97 (s:ByteArray):(bytL s).length=s.size:=by unfold bytL;rw [ec];exact Array.length_toList
theorem z4p (s:ByteArray):zho s=(bytL s).map (dy .u8):=by
  unfold zho bytL;rw [oh];rfl
theorem z1e:∀ (l:List Int),zwg (l.map (dy .u8))=some (l.map u8o)
  |[]=>rfl
  |x :: l=>by rw [gb];unfold zwg;rw [z1e l];rfl
theorem z67 (l:List Int):(⟨(l.map u8o).toArray⟩:ByteArray)=strL l:=d6 rfl rfl
theorem z07 {k:fx}:∀ (l:List Int),(l.map (dy k)).flatMap gd=l.map (dy k)
  |[]=>rfl
  |x :: l=>by rw [gb,ij,z07 l];rfl
theorem ym6 {k:fx} {l:List Int} {n:Nat} (h:l.length=n):(l.map (dy k)).take n=l.map (dy k):=fk (by rw [ec,h];omega)
theorem ych {k:fx} {l:List Int}:(l.map (dy k)).take l.length=l.map (dy k):=ym6 rfl
def cpA {n:Nat} (a:Ar n) (s:ByteArray):Ar n:=⟨(bytL s).take (min s.size n)++a.l.drop (min s.size n),by rw [er,fi,gp,z97,a.h];omega⟩
theorem ymp {n:Nat} (a:Ar n) (s:ByteArray):spl (a.l.map (dy .u8)) 0 (((bytL s).map (dy .u8)).take (min s.size n))=(cpA a s).l.map (dy .u8):=by
  unfold spl cpA;rw [ky,ff,fi,ec,z97,na,List.map_take,List.map_drop,fz];congr 2;omega
theorem yhp {k:fx} {l:List Int} {n:Nat}:((l.map (dy k)).take n).all jn=true:=by rw [<- List.map_take];exact z0z _
theorem ymo {n:Nat}:zds n n none none none=some (0,n,n):=ybr (dz _)
theorem sub0 {n:Nat}:n - 0=n:=Nat.sub_zero n
inductive CK where
  |int (k:fx)
  |bool
  |str
def ckV:CK->Value->Bool
  |.int k,.int k' _=>decide (k=k')
  |.bool,.bool _=>true
  |.str,.string _=>true
  |_,_=>false
def zfi:List CK->List Value->Bool
  |[],[]=>true
  |c :: l,v :: m=>ckV c v && zfi l m
  |_,_=>false
def zso:Value->Value->Bool
  |.int _ a,.int _ b=>a == b
  |.bool a,.bool b=>a == b
  |.string a,.string b=>a == b
  |_,_=>false
def eqVs:List Value->List Value->Bool
  |v :: l,w :: m=>zso v w && eqVs l m
  |_,_=>true
theorem zqs:∀ {sh:List CK} {xs:List Value},zfi sh xs=true->xs.length=sh.length
  |[],[],_=>rfl
  |_ :: _,_ :: _,h=>by
    simp only [zfi,dr] at h;rw [eh,eh,zqs h.2]
  |[],_ :: _,h=>by simp [zfi] at h
  |_ :: _,[],h=>by simp [zfi] at h
theorem zn5 {c:CK}:∀ {xs:List Value},zfi [c] xs=true->∃ v,xs=[v]/\ckV c v=true
  |[],h=>by simp [zfi] at h
  |[v],h=>⟨v,rfl,by simpa [zfi] using h⟩
  |_ :: _ :: _,h=>by simp [zfi] at h
theorem zru:∀ {a b:List CK} {xs:List Value},zfi (a++b) xs=true->zfi a (xs.take a.length)=true/\zfi b (xs.drop a.length)=true
  |[],b,xs,h=>⟨by simp [zfi],by simpa using h⟩
  |c :: a,b,[],h=>by simp [zfi] at h
  |c :: a,b,v :: xs,h=>by
    simp only [fd,zfi,dr] at h;obtain ⟨h1,h2⟩:=zru h.2;exact ⟨by simp only [eh,jy,zfi,h.1,h1,et],by simpa using h2⟩
theorem zl3:∀ {a b c d:List Value},a.length=c.length->eqVs (a++b) (c++d)=(eqVs a c && eqVs b d)
  |[],b,[],d,_=>rfl
  |x :: a,b,y :: c,d,h=>by
    simp only [fd,eqVs,zl3 (Nat.succ.inj h),Bool.and_assoc]
  |[],_,_ :: _,_,h=>by simp at h
  |_ :: _,_,[],_,h=>by simp at h
def valA (a:Bool) (xs:List Value):Value:=if a then .agg xs.toArray else xs.headD undef
noncomputable def zo5 (P:ep) (g:ed->Option (Bool×List CK)):List Field->Nat->Option (List CK)
  |[],_=>some []
  |f :: l,off=>match g f.type,(P.info? f.type).map (fun i=>i.size) with
    | some (_, sh), some sz => if f.name ≠ "_" /\ f.offset = off /\ sz = sh.length then
        (match zo5 P g l (off+sh.length) with|some r=>some (sh++r)|none=>none) else none
    |_,_=>none
noncomputable def zg2 (P:ep):Nat->ed->Option (Bool×List CK)
  |0,_=>none
  |d+1,t=>match P.underlying t with
    |some (.int k)=>some (false,[.int k])
    |some .bool=>some (false,[.bool])
    |some .string=>some (false,[.str])
    |some (.struct fs)=>if P.stoodInHeld t=true then none else (match zo5 P (zg2 P d) fs.toList 0 with|some l=>some (true,l)|none=>none)
    |some (.array n e)=>(match zg2 P d e,(P.info? e).map (fun i=>i.size) with
      |some (_,sh),some sz=>if sz=sh.length then some (true,(ew n sh).flatten) else none
      |_,_=>none)
    |_=>none
section
variable {P:ep}
theorem z0v {α σ:Type} (s0 s1:σ) (f:α->σ->Sem (ForInStep σ)) (b:α->Bool):∀ (l:List α),(∀ x,x∈l->zch P (f x s0)=some (if b x then .yield s0 else .done s1))->zch P (forIn l s0 f:Sem σ)=some (if l.all b then s0 else s1)
  |[],_=>by simp;rfl
  |x :: l,h=>by
    rw [List.forIn_cons,zaq,h x (.head _)]
    cases hb:b x with
    |true =>
      show zch P (forIn l s0 f)=_;rw [z0v s0 s1 f b l fun y hy=>h y (.tail _ hy),ii,hb,iw]
    |false =>
      rw [ii,hb,pg];rfl
theorem yjc {d:Nat} {t:ed} {a:Bool} {sh:List CK} (h:zg2 P d t=some (a,sh)):zch P (isAgg t)=some a:=by
  cases d with
  |zero=>simp [zg2] at h
  |succ d =>
    unfold zg2 at h;unfold isAgg;rw [zaq]
    cases hu:P.underlying t with
    |none=>rw [hu] at h;simp at h
    |some u =>
      rw [hu] at h;rw [ze8 hu]
      cases u with
      |int k=>simp at h;rw [<- h.1];rfl
      |bool=>simp at h;rw [<- h.1];rfl
      |string=>simp at h;rw [<- h.1];rfl
      |struct fs =>
        simp only at h;split at h
        . simp at h
        . split at h
          . simp at h;rw [<- h.1];rfl
          . simp at h
      |array n e =>
        simp only at h;split at h
        . split at h
          . simp at h;rw [<- h.1];rfl
          . simp at h
        . simp at h
      |_=>simp at h
theorem yc6 {d:Nat} {t:ed} {sh:List CK} (h:zg2 P d t=some (false,sh)):∃ c,sh=[c]:=by
  cases d with
  |zero=>simp [zg2] at h
  |succ d =>
    unfold zg2 at h;split at h
    . simp at h;exact ⟨_,h.symm⟩
    . simp at h;exact ⟨_,h.symm⟩
    . simp at h;exact ⟨_,h.symm⟩
    . split at h
      . simp at h
      . split at h<;>simp at h
    . split at h
      . split at h<;>simp at h
      . simp at h
    . simp at h
theorem z3y {t:ed} {sz:Nat} (h:(P.info? t).map (fun i=>i.size)=some sz):zch P (sizeOf t)=some sz:=by
  cases hi:P.info? t with
  |none=>rw [hi] at h;simp at h
  |some i =>
    rw [hi] at h;unfold sizeOf typeInfo;rw [zaq,zaq];show ((zch P (match P.info? t with|some i=>pure i|none=>_)).bind _)=_;rw [hi];simp at h;show zch P (pure i.size)=_;rw [h];rfl
theorem ztk {d : Nat} {t : ed} {a : Bool} {sh : List CK} (h : zg2 P d t = some (a, sh)) (hs : (P.info? t).map (fun i => i.size) = some sh.length) (xs : List Value) (off : Nat) (hl : off + sh.length <= xs.length) :
    zch P (part t xs.toArray off)=some (valA a ((xs.drop off).take sh.length)):=by
  unfold part;rw [zaq,yjc h]
  cases a with
  |true =>
    show zch P (do let n <- sizeOf t;pure (Value.agg (xs.toArray.extract off (off+n))))=_;rw [zaq,z3y hs];show some (Value.agg (xs.toArray.extract off (off+sh.length)))=_;rw [List.extract_toArray,List.extract_eq_take_drop,Nat.add_sub_cancel_left];rfl
  |false =>
    obtain ⟨c,rfl⟩:=yc6 h;simp only [eh,gh,fz] at hl ⊢;show zch P (match xs.toArray[off]? with|some v=>pure v|none=>_)=_;rw [List.getElem?_toArray,dv (by omega),List.drop_eq_getElem_cons (by omega)];rfl
theorem zy0 {g:ed->Option (Bool×List CK)}:∀ {l:List Field} {off:Nat} {sh:List CK} {xs ys:List Value},zo5 P g l off=some sh->xs.length=off+sh.length->ys.length=off+sh.length ->
    (l.all fun f=>match g f.type with|some (_,s)=>eqVs ((xs.drop f.offset).take s.length) ((ys.drop f.offset).take s.length)|none=>true)=eqVs (xs.drop off) (ys.drop off)
  |[],off,sh,xs,ys,h,hx,hy=>by
    simp only [zo5,dp] at h;subst h;rw [il (by simp at hx;omega),il (by simp at hy;omega)];rfl
  |f :: l,off,sh,xs,ys,h,hx,hy=>by
    unfold zo5 at h;split at h
    . rename_i a s sz hg hs;split at h
      . rename_i hc;split at h
        . rename_i r hr;cases h;rw [er] at hx hy;rw [ii,zy0 hr (by omega) (by omega),hg];simp only;rw [hc.2.1]
          have hr2:eqVs (xs.drop off) (ys.drop off)=(eqVs ((xs.drop off).take s.length) ((ys.drop off).take s.length) && eqVs (xs.drop (off+s.length)) (ys.drop (off+s.length))):=by
            conv=>lhs;rw [<- iq s.length (xs.drop off),<- iq s.length (ys.drop off)]
            rw [zl3 (by rw [fi,fi,gp,gp];omega),l7,l7]
          rw [hr2]
        . cases h
      . cases h
    . cases h
theorem zo4 {g : ed -> Option (Bool × List CK)} : ∀ {l : List Field} {off : Nat} {sh : List CK} {xs : List Value}, zo5 P g l off = some sh -> xs.length = off + sh.length -> zfi sh (xs.drop off) = true -> ∀ f, f ∈ l -> ∃ a s, g f.type = some (a, s) /\ (P.info? f.type).map (fun i => i.size) = some s.length /\ f.name ≠ "_" /\ f.offset + s.length <= xs.length /\ zfi s ((xs.drop f.offset).take s.length) = true
  |[],off,sh,xs,h,hx,hf,f,hm=>by cases hm
  |f' :: l,off,sh,xs,h,hx,hf,f,hm=>by
    unfold zo5 at h;split at h
    . rename_i a s sz hg hs;split at h
      . rename_i hc;split at h
        . rename_i r hr;cases h;rw [er] at hx;obtain ⟨f1,f2⟩:=zru hf;rw [l7] at f2
          cases hm with
          |head=>exact ⟨a,s,hg,by rw [hs,hc.2.2],hc.1,by rw [hc.2.1];omega,by rw [hc.2.1];exact f1⟩
          |tail _ hm=>exact zo4 hr (by omega) f2 f hm
        . cases h
      . cases h
    . cases h
theorem z9f {s:List CK}:∀ (n k:Nat) {xs ys:List Value},xs.length=(k+n)*s.length->ys.length=(k+n)*s.length ->
    ((n8 k n).all fun i=>eqVs ((xs.drop (i*s.length)).take s.length) ((ys.drop (i*s.length)).take s.length))=eqVs (xs.drop (k*s.length)) (ys.drop (k*s.length))
  |0,k,xs,ys,hx,hy=>by
    rw [il (by rw [hx];exact dz _),il (by rw [hy];exact dz _)];rfl
  |n+1,k,xs,ys,hx,hy=>by
    have e:(k+(n+1))*s.length=k*s.length+s.length+n*s.length:=by rw [ig,ig,mr];omega
    rw [List.range'_succ,ii,z9f n (k+1) (by rw [hx];congr 1;omega) (by rw [hy];congr 1;omega)];rw [ig,mr,<- l7,<- l7,<- zl3 (by rw [fi,fi,gp,gp];omega),iq,iq]
theorem z0s {s:List CK}:∀ {n:Nat} {xs:List Value},zfi (ew n s).flatten xs=true->∀ i,i<n->zfi s ((xs.drop (i*s.length)).take s.length)=true
  |0,xs,h,i,hi=>by omega
  |n+1,xs,h,i,hi=>by
    rw [gu,fm] at h;obtain ⟨h1,h2⟩:=zru h
    cases i with
    |zero=>simpa using h1
    |succ i =>
      have:=z0s h2 i (by omega);rw [l7] at this;rw [ig,mr,Nat.add_comm];exact this
theorem ymd:∀ (d:Nat) {t:ed} {a:Bool} {sh:List CK},zg2 P d t=some (a,sh)->∀ {xs ys:List Value},zfi sh xs=true->zfi sh ys=true->zch P (Op.equalIn d t (valA a xs) (valA a ys))=some (eqVs xs ys):=by
  intro d
  induction d with
  |zero=>intro t a sh h;simp [zg2] at h
  |succ d ih =>
    intro t a sh h xs ys hx hy;have hpu:∀ {α:Type} (v:α),zch P (pure v:Sem α)=some v:=fun v=>rfl;unfold zg2 at h;unfold Op.equalIn;rw [zaq]
    cases hu:P.underlying t with
    |none=>rw [hu] at h;simp at h
    |some u =>
      rw [hu] at h;rw [ze8 hu]
      cases u with
      |int k =>
        simp at h;obtain ⟨rfl,rfl⟩:=h;obtain ⟨v,rfl,h1⟩:=zn5 hx;obtain ⟨w,rfl,h2⟩:=zn5 hy
        . cases v<;>simp [ckV] at h1;cases w<;>simp [ckV] at h2;subst h1 h2
          simp [valA,eqVs,zso,hpu]
      |bool =>
        simp at h;obtain ⟨rfl,rfl⟩:=h;obtain ⟨v,rfl,h1⟩:=zn5 hx;obtain ⟨w,rfl,h2⟩:=zn5 hy
        . cases v<;>simp [ckV] at h1;cases w<;>simp [ckV] at h2
          simp [valA,eqVs,zso,hpu]
      |string =>
        simp at h;obtain ⟨rfl,rfl⟩:=h;obtain ⟨v,rfl,h1⟩:=zn5 hx;obtain ⟨w,rfl,h2⟩:=zn5 hy
        . cases v<;>simp [ckV] at h1;cases w<;>simp [ckV] at h2
          simp [valA,eqVs,zso,hpu]
      |struct fs =>
        simp only at h;split at h
        . simp at h
        . rename_i hst;split at h
          . rename_i l hl;simp at h;obtain ⟨rfl,rfl⟩:=h;have lx:=zqs hx;have ly:=zqs hy;have hall:=zy0 hl (by rw [lx];omega) (by rw [ly];omega);rw [fp,fp] at hall;simp only [valA,if_true,dq];rw [zaq];show (((some P:Option ep)).bind _)=_;simp only [dq,zAd hst];rw [zaq];show ((zch P (forIn fs _ _)).bind _)=_;rw [<- Array.forIn_toList];rw [z0v (P:=P) (none,()) (some false,()) _ (fun f=>match zg2 P d f.type with|some (_,s)=>eqVs ((xs.drop f.offset).take s.length) ((ys.drop f.offset).take s.length)|none=>true) fs.toList ?_]
            . rw [hall];cases eqVs xs ys<;>rfl
            . intro f hf;obtain ⟨a,s,g1,g2,g3,g4,g5⟩:=zo4 hl (by rw [lx];omega) (by rw [fp];exact hx) f hf;obtain ⟨a',s',g1',_,_,g4',g5'⟩:=zo4 hl (by rw [ly];omega) (by rw [fp];exact hy) f hf;rw [g1] at g1';cases g1';rw [zAc g3,zaq,ztk g1 g2 _ _ g4];simp only [dq];rw [zaq,ztk g1 g2 _ _ g4'];simp only [dq];rw [zaq,ih g1 g5 g5',g1];simp only [dq];have hq:∀ q:Bool,zch P (if (!q)=true then pure (ForInStep.done (some false,())) else pure (ForInStep.yield (none,())):Sem (ForInStep (Option Bool×Unit)))=some (if q=true then .yield (none,()) else .done (some false,())):=by intro q;cases q<;>rfl
              exact hq _
          . simp at h
      |array n e =>
        simp only at h;split at h
        . rename_i ae se sz hse hsz;split at h
          . rename_i hc;subst hc;simp at h;obtain ⟨rfl,rfl⟩:=h;have lx:=zqs hx;have ly:=zqs hy;have hlen:(ew n se).flatten.length=n*se.length:=by simp
            rw [hlen] at lx ly;simp only [valA,if_true,dq];rw [zaq,z3y hsz];simp only [dq,yf2];rw [zaq,z0v (P:=P) (none,()) (some false,()) _ (fun i=>eqVs ((xs.drop (i*se.length)).take se.length) ((ys.drop (i*se.length)).take se.length)) (n8 0 n) ?_]
            . rw [z9f n 0 (by rw [lx];congr 1;omega) (by rw [ly];congr 1;omega),Nat.zero_mul,fp,fp];cases eqVs xs ys<;>rfl
            . intro i hi;have hin:i<n:=by have:=List.mem_range'_1.1 hi;omega
              have hle:i*se.length+se.length<=n*se.length:=by
                have:=Nat.mul_le_mul_right se.length (show i+1<=n by omega);rw [ig,mr] at this;exact this
              rw [zaq,ztk hse hsz _ _ (by omega)];simp only [dq];rw [zaq,ztk hse hsz _ _ (by omega)];simp only [dq];rw [zaq,ih hse (z0s hx i hin) (z0s hy i hin)];simp only [dq];have hq:∀ q:Bool,zch P (if (!q)=true then pure (ForInStep.done (some false,())) else pure (ForInStep.yield (none,())):Sem (ForInStep (Option Bool×Unit)))=some (if q=true then .yield (none,()) else .done (some false,())):=by intro q;cases q<;>rfl
              exact hq _
          . simp at h
        . simp at h
      |_=>simp at h
variable {Γ:Env} {S:TS} {t:ed} {x y:d8}
theorem zzt {sh:List CK} {l m:List T} {vs ws:List Value} (ht:zg2 P 10000 t=some (true,sh)) (hq:P.eqGuardType P.depth t=false) (hl:zf8 l=some vs) (hm:zf8 m=some ws) (hx:zfi sh vs=true) (hy:zfi sh ws=true) {b:Bool} (hb:eqVs vs ws=b) :
    tBin P Γ S t .eql x y (.agg l) (.agg m)=some (.bool b)/\tBin P Γ S t .neq x y (.agg l) (.agg m)=some (.bool (!b)):=by
  have h:zch P (Op.equal t (.agg vs.toArray) (.agg ws.toArray))=some b:=by rw [<- hb];exact ymd 10000 ht hx hy
  have hg:∀ op,op=.eql\/op=.neq->zch P (eqGuard op t x y (.agg vs.toArray) (.agg ws.toArray))=some ():=by
    intro op hop;rcases hop with rfl|rfl
    . show zch P (if !(P.eqGuardType P.depth t) then pure () else _)=some ();rw [hq];rfl
    . show zch P (if !(P.eqGuardType P.depth t) then pure () else _)=some ();rw [hq];rfl
  have he:zch P (binOp .eql t (.agg vs.toArray) (.agg ws.toArray))=some (.bool b):=by
    show zch P (do pure (Value.bool (<- Op.equal t (.agg vs.toArray) (.agg ws.toArray))):Sem Value)=_;rw [zaq,h];rfl
  have hn:zch P (binOp .neq t (.agg vs.toArray) (.agg ws.toArray))=some (.bool (!b)):=by
    show zch P (do pure (Value.bool (!(<- Op.equal t (.agg vs.toArray) (.agg ws.toArray)))):Sem Value)=_;rw [zaq,h];rfl
  constructor
  . show zzj P t .eql x y _ _=_;unfold zzj;rw [hl,hm];simp only;rw [zaq,hg _ (.inl rfl)];show (match zch P (binOp .eql t (.agg vs.toArray) (.agg ws.toArray)) with|some (.bool r)=>some (oy r)|_=>none)=_;rw [he]
  . show zzj P t .neq x y _ _=_;unfold zzj;rw [hl,hm];simp only;rw [zaq,hg _ (.inr rfl)];show (match zch P (binOp .neq t (.agg vs.toArray) (.agg ws.toArray)) with|some (.bool r)=>some (oy r)|_=>none)=_;rw [hn]
theorem zlr:∀ {a b:List T} {x y:List Value},zf8 a=some x->zf8 b=some y->zf8 (a++b)=some (x++y)
  |[],b,x,y,h,h2=>by simp only [zf8,dp] at h;subst h;exact h2
  |t :: a,b,x,y,h,h2=>by
    unfold zf8 at h;split at h
    . rename_i v r e1 e2;cases h;rw [fd];unfold zf8;rw [e1,zlr e2 h2];rfl
    . cases h
theorem z3z {k:fx}:∀ {a b:List Int},a.length=b.length->eqVs (a.map (ju k)) (b.map (ju k))=decide (a=b)
  |[],[],_=>rfl
  |x :: a,y :: b,h=>by
    rw [gb,gb,eqVs,z3z (Nat.succ.inj h)];simp only [zso,List.cons.injEq,Bool.decide_and]
    congr 1
  |[],_ :: _,h=>by simp at h
  |_ :: _,[],h=>by simp at h
theorem z6h {k:fx} {n:Nat} (a b:Ar n):eqVs (a.l.map (ju k)) (b.l.map (ju k))=decide (a=b):=by
  rw [z3z (by rw [a.h,b.h])];exact decide_eq_decide.2 (Ar.eq_iff.symm)
theorem z3v {k:fx}:∀ {l:List Int} {r:List CK} {vs:List Value},zfi r vs=true->zfi (ew l.length (.int k)++r) (l.map (ju k)++vs)=true
  |[],r,vs,h=>h
  |x :: l,r,vs,h=>by
    rw [eh,gu,gb,fd,fd,zfi,z3v h];simp [ckV]
end
section
variable {k:fx} {n m:Nat} (a b:Ar n) (r xs:List T)
theorem sgT (h:n<=m):(a.l.map (dy k)++r).take m=a.l.map (dy k)++r.take (m - n):=by
  rw [nv,fk (by rw [ec,a.h];exact h),ec,a.h]
theorem sgT1 (h:n<=m):(a.l.map (dy k)).take m=a.l.map (dy k):=fk (by rw [ec,a.h];exact h)
theorem sgD (h:n<=m):(a.l.map (dy k)++r).drop m=r.drop (m - n):=by
  rw [nw,il (by rw [ec,a.h];exact h),ff,ec,a.h]
theorem sgD1 (h:n<=m):(a.l.map (dy k)).drop m=[]:=il (by rw [ec,a.h];exact h)
theorem sgG (h:n<=m):(a.l.map (dy k)++r)[m]?=r[m - n]?:=by
  rw [fq (by rw [ec,a.h];exact h),ec,a.h]
theorem splA:spl (a.l.map (dy k)++r) 0 (b.l.map (dy k)++xs)=b.l.map (dy k)++spl r 0 xs:=by
  unfold spl;rw [ky,ky,ff,ff,fe,fz,fz,er,ec,b.h,<- l7];congr 3;rw [nw,il (by rw [ec,a.h];exact dz _),ec,a.h,po];rfl
theorem ypg:spl (a.l.map (dy k)++r) 0 (b.l.map (dy k))=b.l.map (dy k)++r:=by
  have:=splA (k:=k) a b r [];rw [fj] at this;rw [this,yng]
theorem ypf:spl (a.l.map (dy k)) 0 (b.l.map (dy k))=b.l.map (dy k):=arSpl a b
theorem splS (h:n<=m):spl (a.l.map (dy k)++r) m xs=a.l.map (dy k)++spl r (m - n) xs:=by
  unfold spl;rw [sgT a r h,nw,il (by rw [ec,a.h];omega),ec,a.h,ff];simp only [fe];congr 4;omega
theorem ynh (v:T) (h:n<=m):(a.l.map (dy k)++r).set m v=a.l.map (dy k)++r.set (m - n) v:=by
  rw [List.set_append,zAd (by rw [ec,a.h];omega),ec,a.h]
end
theorem zmi {k:fx} {n off:Nat} {L r:List T} (a:Ar n) {i:Int} (h:0<=i/\i<(n:Int)) (hL:L.drop off=a.l.map (dy k)++r:=by first|rfl | (simp (disch:=decide) only [fe,fj,er,fd,ff,ec,eh,gh,Ar.len,sgD,sgD1,ir,fp,gt,ek,fz];done)):L[off+i.toNat]?=some (dy k (gx a.l i)):=by
  rw [<- jk,hL,eu (by rw [ec,a.h];omega),kj,arIx a h];rfl
theorem zkr {k:fx} {n:Nat} {L r:List T} (a:Ar n) {i:Int} (h:0<=i/\i<(n:Int)) (hL:L=a.l.map (dy k)++r:=by first|rfl | (simp (disch:=decide) only [fe,fj,er,fd,ff,ec,eh,gh,Ar.len,sgD,sgD1,ir,fp,gt,ek,fz];done)):L[i.toNat]?=some (dy k (gx a.l i)):=by
  have:=zmi (off:=0) (L:=L) a h (by rw [fp];exact hL)
  rwa [fz] at this
theorem cpAt {k:fx} {n:Nat} {L r:List T} (a:Ar n) {i:Int} (h:0<=i/\i<(n:Int)) (hL:L=a.l.map (dy k)++r:=by first|rfl | (simp (disch:=decide) only [fe,fj,er,fd,ff,ec,eh,gh,Ar.len,sgD,sgD1,ir,fp,gt,ek,fz];done)):(L.drop i.toNat)[0]?=some (dy k (gx a.l i)):=by
  rw [jk,gm];exact zkr a h hL
theorem setAt {k:fx} {n off:Nat} {L L2 p r:List T} (a:Ar n) {i:Int} (v:Int) (h:0<=i/\i<(n:Int)) (hL:L=p++(a.l.map (dy k)++r):=by first|rfl | (simp (disch:=decide) only [fe,fj,er,fd,ff,ec,eh,gh,Ar.len,sgD,sgD1,ir,fp,gt,ek,fz];done)) (hp:p.length=off:=by first|rfl | (simp (disch:=decide) only [fe,fj,er,fd,ff,ec,eh,gh,Ar.len,sgD,sgD1,ir,fp,gt,ek,fz];done)) (h2:L2=p++((a.set i v).l.map (dy k)++r):=by first|rfl | (simp (disch:=decide) only [fe,fj,er,fd,ff,ec,eh,gh,Ar.len,sgD,sgD1,ir,fp,gt,ek,fz];done)):spl L (off+i.toNat) [dy k v]=L2:=by
  subst hL h2;have hs:=yos (k:=k) a v h;unfold spl at hs ⊢;have hi:i.toNat+1<=n:=by omega
  rw [<- hs];simp only [eh,gh,fz];rw [nv,fk (show p.length<=off+i.toNat by omega),show off+i.toNat - p.length=i.toNat by omega,List.take_append_of_le_length (by rw [ec,a.h];omega)];rw [nw,il (show p.length<=off+i.toNat+1 by omega),show off+i.toNat+1 - p.length=i.toNat+1 by omega,ff,List.drop_append_of_le_length (by rw [ec,a.h];omega)];simp only [fe]
theorem yc9 {k:fx} {n:Nat} {L L2 r:List T} (a:Ar n) {i:Int} (v:Int) (h:0<=i/\i<(n:Int)) (hL:L=a.l.map (dy k)++r:=by first|rfl | (simp (disch:=decide) only [fe,fj,er,fd,ff,ec,eh,gh,Ar.len,sgD,sgD1,ir,fp,gt,ek,fz];done)) (h2:L2=(a.set i v).l.map (dy k)++r:=by first|rfl | (simp (disch:=decide) only [fe,fj,er,fd,ff,ec,eh,gh,Ar.len,sgD,sgD1,ir,fp,gt,ek,fz];done)):spl L i.toNat [dy k v]=L2:=by
  have:=setAt (off:=0) (p:=[]) (L:=L) (L2:=L2) a v h hL rfl h2
  rwa [fz] at this
/-! bits of integers -/
def iAnd (k:fx) (a b:Int):Int:=k.wrap (ge k.bits a &&& ge k.bits b).toNat
def iOr (k:fx) (a b:Int):Int:=k.wrap (ge k.bits a ||| ge k.bits b).toNat
def iXor (k:fx) (a b:Int):Int:=k.wrap (ge k.bits a ^^^ ge k.bits b).toNat
def z6c (k:fx) (a b:Int):Int:=k.wrap (ge k.bits a &&& ~~~ ge k.bits b).toNat
theorem yk1 {k:fx} {a b:Int}:zcq .and k k a b=some (.int k (iAnd k a b)):=yp2
theorem ypz {k:fx} {a b:Int}:zcq .or k k a b=some (.int k (iOr k a b)):=ib_or
theorem yk0 {k:fx} {a b:Int}:zcq .xor k k a b=some (.int k (iXor k a b)):=yp1
theorem yfc {k:fx} {a b:Int}:zcq .andNot k k a b=some (.int k (z6c k a b)):=by simp [zcq,z6c]
theorem z5j {t:T} {l:List T} {v:Value} {r:List Value} (h:ydb t=some v) (k:zf8 l=some r):zf8 (t :: l)=some (v :: r):=by
  unfold zf8;rw [h,k]
theorem yf3 {c:CK} {v:Value} {r:List CK} {vs:List Value} (h:ckV c v=true) (k:zfi r vs=true):zfi (c :: r) (v :: vs)=true:=by
  rw [zfi,h,k];rfl
theorem yp9 (k:fx) (n:Int):ckV (.int k) (.int k n)=true:=by simp [ckV]
theorem z6e {k:fx} {n:Nat} (a:Ar n) {r:List CK} {vs:List Value} (h:zfi r vs=true):zfi (ew n (.int k)++r) (a.l.map (ju k)++vs)=true:=by
  have:=z3v (k:=k) (l:=a.l) h
  rwa [a.h] at this
theorem z88 {k:fx} {n:Nat} (a:Ar n):zfi (ew n (.int k)) (a.l.map (ju k))=true:=by
  have:=z6e (k:=k) a (r:=[]) (vs:=[]) rfl
  rwa [fj,fj] at this
theorem ygr {k:fx} {n:Nat} (a b:Ar n) (x y:List Value):eqVs (a.l.map (ju k)++x) (b.l.map (ju k)++y)=(decide (a=b) && eqVs x y):=by
  rw [zl3 (by rw [ec,ec,a.h,b.h]),z6h]
theorem yfl {k:fx} {m:Nat} (l:List Int):(T.agg (l.map (dy k))).ids m=true:=zdz l
theorem yhl (l:List T):l++[]=l:=fj l
theorem z4x (a b c:List T):a++b++c=a++(b++c):=fe a b c
theorem zu8 (a b:List T):(a++b).length=a.length+b.length:=er
theorem yho (a b:List T) (p:T->Bool):(a++b).all p=(a.all p && b.all p):=List.all_append
theorem z1q (n:Nat):([]:List T).take n=[]:=List.take_nil
theorem z33 (n:Nat):([]:List T).drop n=[]:=List.drop_nil
noncomputable def LL:List Nat:=[3,4,5,6,7,8,9,10,11,12,13,14,15,16,17,18,19,20,21,22,23,24,25,26,27,28,29,30,31,32,33,34,35,36,37,38,39,40,41,42,43,44,45,46,47,48,49,50,51,52,53,54,55,56,57,58,59,60,61,62,63,64,65,66,67,68,69,70,71,72,73,74,75,76,77,78,79,80,81,82,83,84,85,86,87,88,89,90,91,92,93,94,95,96,97,98,99,100,101,102,103,104,105,106,107,108,109,110,111,112,113,114,115,116,117,118,119,120,121,122,123,124,125,126,127,128,129,130,131,132,133,134,135,136]
def GG:List Nat:=[]
noncomputable def EE (ax:Axs):Env:=zd0 Tryz.prog LL ax
theorem zl4 (ax:Axs):zcv Tryz.prog (EE ax):=ygt _ _ _
theorem zqr:zjz Tryz.prog GG LL=true:=by kernel_rfl
theorem z5y:Tryz.prog.follows .mixedOrders=true:=by kernel_rfl
noncomputable def aggO:Option (List T)->Option T
  |some l=>some (.agg l)
  |none=>none
theorem fn3 (ax:Axs):(EE ax).fn.at 3=some Tryz.f3:=by kernel_rfl
theorem fn7 (ax:Axs):(EE ax).fn.at 7=some Tryz.f7:=by kernel_rfl
theorem fn8 (ax:Axs):(EE ax).fn.at 8=some Tryz.f8:=by kernel_rfl
theorem fn9 (ax:Axs):(EE ax).fn.at 9=some Tryz.f9:=by kernel_rfl
theorem fn10 (ax:Axs):(EE ax).fn.at 10=some Tryz.f10:=by kernel_rfl
theorem fn11 (ax:Axs):(EE ax).fn.at 11=some Tryz.f11:=by kernel_rfl
theorem fn12 (ax:Axs):(EE ax).fn.at 12=some Tryz.f12:=by kernel_rfl
theorem fn13 (ax:Axs):(EE ax).fn.at 13=some Tryz.f13:=by kernel_rfl
theorem fn14 (ax:Axs):(EE ax).fn.at 14=some Tryz.f14:=by kernel_rfl
theorem fn15 (ax:Axs):(EE ax).fn.at 15=some Tryz.f15:=by kernel_rfl
theorem fn16 (ax:Axs):(EE ax).fn.at 16=some Tryz.f16:=by kernel_rfl
theorem fn17 (ax:Axs):(EE ax).fn.at 17=some Tryz.f17:=by kernel_rfl
theorem fn18 (ax:Axs):(EE ax).fn.at 18=some Tryz.f18:=by kernel_rfl
theorem fn19 (ax:Axs):(EE ax).fn.at 19=some Tryz.f19:=by kernel_rfl
theorem fn20 (ax:Axs):(EE ax).fn.at 20=some Tryz.f20:=by kernel_rfl
theorem fn21 (ax:Axs):(EE ax).fn.at 21=some Tryz.f21:=by kernel_rfl
theorem fn27 (ax:Axs):(EE ax).fn.at 27=some Tryz.f27:=by kernel_rfl
theorem fn28 (ax:Axs):(EE ax).fn.at 28=some Tryz.f28:=by kernel_rfl
theorem fn35 (ax:Axs):(EE ax).fn.at 35=some Tryz.f35:=by kernel_rfl
theorem fn37 (ax:Axs):(EE ax).fn.at 37=some Tryz.f37:=by kernel_rfl
theorem fn38 (ax:Axs):(EE ax).fn.at 38=some Tryz.f38:=by kernel_rfl
theorem fn39 (ax:Axs):(EE ax).fn.at 39=some Tryz.f39:=by kernel_rfl
theorem fn40 (ax:Axs):(EE ax).fn.at 40=some Tryz.f40:=by kernel_rfl
theorem fn41 (ax:Axs):(EE ax).fn.at 41=some Tryz.f41:=by kernel_rfl
theorem fn42 (ax:Axs):(EE ax).fn.at 42=some Tryz.f42:=by kernel_rfl
theorem fn43 (ax:Axs):(EE ax).fn.at 43=some Tryz.f43:=by kernel_rfl
theorem fn44 (ax:Axs):(EE ax).fn.at 44=some Tryz.f44:=by kernel_rfl
theorem fn45 (ax:Axs):(EE ax).fn.at 45=some Tryz.f45:=by kernel_rfl
theorem fn46 (ax:Axs):(EE ax).fn.at 46=some Tryz.f46:=by kernel_rfl
theorem fn47 (ax:Axs):(EE ax).fn.at 47=some Tryz.f47:=by kernel_rfl
theorem fn48 (ax:Axs):(EE ax).fn.at 48=some Tryz.f48:=by kernel_rfl
theorem fn49 (ax:Axs):(EE ax).fn.at 49=some Tryz.f49:=by kernel_rfl
theorem fn50 (ax:Axs):(EE ax).fn.at 50=some Tryz.f50:=by kernel_rfl
theorem fn51 (ax:Axs):(EE ax).fn.at 51=some Tryz.f51:=by kernel_rfl
theorem fn52 (ax:Axs):(EE ax).fn.at 52=some Tryz.f52:=by kernel_rfl
theorem fn53 (ax:Axs):(EE ax).fn.at 53=some Tryz.f53:=by kernel_rfl
theorem fn54 (ax:Axs):(EE ax).fn.at 54=some Tryz.f54:=by kernel_rfl
theorem fn55 (ax:Axs):(EE ax).fn.at 55=some Tryz.f55:=by kernel_rfl
theorem fn56 (ax:Axs):(EE ax).fn.at 56=some Tryz.f56:=by kernel_rfl
theorem fn61 (ax:Axs):(EE ax).fn.at 61=some Tryz.f61:=by kernel_rfl
theorem fn64 (ax:Axs):(EE ax).fn.at 64=some Tryz.f64:=by kernel_rfl
theorem fn70 (ax:Axs):(EE ax).fn.at 70=some Tryz.f70:=by kernel_rfl
theorem fn76 (ax:Axs):(EE ax).fn.at 76=some Tryz.f76:=by kernel_rfl
theorem fn82 (ax:Axs):(EE ax).fn.at 82=some Tryz.f82:=by kernel_rfl
theorem fn83 (ax:Axs):(EE ax).fn.at 83=some Tryz.f83:=by kernel_rfl
theorem fn84 (ax:Axs):(EE ax).fn.at 84=some Tryz.f84:=by kernel_rfl
theorem fn85 (ax:Axs):(EE ax).fn.at 85=some Tryz.f85:=by kernel_rfl
theorem fn86 (ax:Axs):(EE ax).fn.at 86=some Tryz.f86:=by kernel_rfl
theorem fn87 (ax:Axs):(EE ax).fn.at 87=some Tryz.f87:=by kernel_rfl
theorem fn88 (ax:Axs):(EE ax).fn.at 88=some Tryz.f88:=by kernel_rfl
theorem fn89 (ax:Axs):(EE ax).fn.at 89=some Tryz.f89:=by kernel_rfl
theorem fn90 (ax:Axs):(EE ax).fn.at 90=some Tryz.f90:=by kernel_rfl
theorem fn97 (ax:Axs):(EE ax).fn.at 97=some Tryz.f97:=by kernel_rfl
theorem fn101 (ax:Axs):(EE ax).fn.at 101=some Tryz.f101:=by kernel_rfl
theorem fn108 (ax:Axs):(EE ax).fn.at 108=some Tryz.f108:=by kernel_rfl
theorem fn109 (ax:Axs):(EE ax).fn.at 109=some Tryz.f109:=by kernel_rfl
theorem fn110 (ax:Axs):(EE ax).fn.at 110=some Tryz.f110:=by kernel_rfl
theorem fn111 (ax:Axs):(EE ax).fn.at 111=some Tryz.f111:=by kernel_rfl
theorem fn112 (ax:Axs):(EE ax).fn.at 112=some Tryz.f112:=by kernel_rfl
theorem fn113 (ax:Axs):(EE ax).fn.at 113=some Tryz.f113:=by kernel_rfl
theorem fn114 (ax:Axs):(EE ax).fn.at 114=some Tryz.f114:=by kernel_rfl
theorem fn115 (ax:Axs):(EE ax).fn.at 115=some Tryz.f115:=by kernel_rfl
theorem fn116 (ax:Axs):(EE ax).fn.at 116=some Tryz.f116:=by kernel_rfl
theorem fn117 (ax:Axs):(EE ax).fn.at 117=some Tryz.f117:=by kernel_rfl
theorem fn119 (ax:Axs):(EE ax).fn.at 119=some Tryz.f119:=by kernel_rfl
theorem fn120 (ax:Axs):(EE ax).fn.at 120=some Tryz.f120:=by kernel_rfl
theorem fn124 (ax:Axs):(EE ax).fn.at 124=some Tryz.f124:=by kernel_rfl
theorem fn125 (ax:Axs):(EE ax).fn.at 125=some Tryz.f125:=by kernel_rfl
theorem fn126 (ax:Axs):(EE ax).fn.at 126=some Tryz.f126:=by kernel_rfl
theorem fn127 (ax:Axs):(EE ax).fn.at 127=some Tryz.f127:=by kernel_rfl
theorem fn128 (ax:Axs):(EE ax).fn.at 128=some Tryz.f128:=by kernel_rfl
theorem fn129 (ax:Axs):(EE ax).fn.at 129=some Tryz.f129:=by kernel_rfl
theorem fn130 (ax:Axs):(EE ax).fn.at 130=some Tryz.f130:=by kernel_rfl
theorem fn131 (ax:Axs):(EE ax).fn.at 131=some Tryz.f131:=by kernel_rfl
theorem fn132 (ax:Axs):(EE ax).fn.at 132=some Tryz.f132:=by kernel_rfl
theorem fn134 (ax:Axs):(EE ax).fn.at 134=some Tryz.f134:=by kernel_rfl
theorem fn135 (ax:Axs):(EE ax).fn.at 135=some Tryz.f135:=by kernel_rfl
theorem fn136 (ax:Axs):(EE ax).fn.at 136=some Tryz.f136:=by kernel_rfl
theorem ti3 (ax:Axs):(EE ax).ti.at 3=some ⟨.int .i64,1,8,[.int .i64 0]⟩:=by kernel_rfl
theorem ti4 (ax:Axs):(EE ax).ti.at 4=some ⟨.bool,1,1,[.bool false]⟩:=by kernel_rfl
theorem ti9 (ax:Axs):(EE ax).ti.at 9=some ⟨.string,1,16,[.string ⟨#[]⟩]⟩:=by kernel_rfl
theorem ti22 (ax:Axs):(EE ax).ti.at 22=some ⟨.slice 43,1,24,[.slice none 0 0]⟩:=by kernel_rfl
theorem ti23 (ax:Axs):(EE ax).ti.at 23=some ⟨.slice 65,1,24,[.slice none 0 0]⟩:=by kernel_rfl
theorem ti24 (ax:Axs):(EE ax).ti.at 24=some ⟨.slice 85,1,24,[.slice none 0 0]⟩:=by kernel_rfl
theorem ymc (ax:Axs) (S:TS) (b off N:Nat):zab (EE ax) S 26 0 (.ptr b off N)=bif S.has b N then some (.ptr b (off+0) N) else none:=by kernel_rfl
theorem yls (ax:Axs) (S:TS) (l:List T):zab (EE ax) S 26 0 (.cp l)=some (.cp (l.drop 0)):=by kernel_rfl
theorem ymb (ax:Axs) (S:TS) (b off N:Nat):zab (EE ax) S 26 1 (.ptr b off N)=bif S.has b N then some (.ptr b (off+1) N) else none:=by kernel_rfl
theorem ylr (ax:Axs) (S:TS) (l:List T):zab (EE ax) S 26 1 (.cp l)=some (.cp (l.drop 1)):=by kernel_rfl
theorem yma (ax:Axs) (S:TS) (b off N:Nat):zab (EE ax) S 26 2 (.ptr b off N)=bif S.has b N then some (.ptr b (off+2) N) else none:=by kernel_rfl
noncomputable def fs26:Array Field:=match Tryz.prog.underlying 26 with|some (.struct fs)=>fs|_=>#[]
theorem ti26 (ax:Axs):(EE ax).ti.at 26=some ⟨.struct fs26,3,72,[.slice none 0 0,.slice none 0 0,.slice none 0 0]⟩:=by kernel_rfl
theorem ti27 (ax:Axs):(EE ax).ti.at 27=some ⟨.slice 41,1,24,[.slice none 0 0]⟩:=by kernel_rfl
theorem ti28 (ax:Axs):(EE ax).ti.at 28=some ⟨.slice 91,1,24,[.slice none 0 0]⟩:=by kernel_rfl
theorem yl9 (ax:Axs) (S:TS) (b off N:Nat):zab (EE ax) S 30 0 (.ptr b off N)=bif S.has b N then some (.ptr b (off+0) N) else none:=by kernel_rfl
theorem yl8 (ax:Axs) (S:TS) (b off N:Nat):zab (EE ax) S 30 1 (.ptr b off N)=bif S.has b N then some (.ptr b (off+1) N) else none:=by kernel_rfl
theorem ylq (ax:Axs) (S:TS) (l:List T):zab (EE ax) S 30 1 (.cp l)=some (.cp (l.drop 1)):=by kernel_rfl
theorem yl7 (ax:Axs) (S:TS) (b off N:Nat):zab (EE ax) S 30 2 (.ptr b off N)=bif S.has b N then some (.ptr b (off+2) N) else none:=by kernel_rfl
theorem ylp (ax:Axs) (S:TS) (l:List T):zab (EE ax) S 30 2 (.cp l)=some (.cp (l.drop 2)):=by kernel_rfl
noncomputable def fs30:Array Field:=match Tryz.prog.underlying 30 with|some (.struct fs)=>fs|_=>#[]
theorem ti30 (ax:Axs):(EE ax).ti.at 30=some ⟨.struct fs30,3,56,[.int .i64 0,.slice none 0 0,.slice none 0 0]⟩:=by kernel_rfl
theorem ti37 (ax:Axs):(EE ax).ti.at 37=some ⟨.slice 3,1,24,[.slice none 0 0]⟩:=by kernel_rfl
theorem sr37 (ax:Axs):srcT (EE ax) 37=true:=by kernel_rfl
theorem ti40 (ax:Axs):(EE ax).ti.at 40=some ⟨.slice 104,1,24,[.slice none 0 0]⟩:=by kernel_rfl
theorem sr40 (ax:Axs):srcT (EE ax) 40=true:=by kernel_rfl
theorem ti41 (ax:Axs):(EE ax).ti.at 41=some ⟨.slice 104,1,24,[.slice none 0 0]⟩:=by kernel_rfl
theorem sr41 (ax:Axs):srcT (EE ax) 41=true:=by kernel_rfl
theorem ylo (ax:Axs) (S:TS) (l:List T):zab (EE ax) S 43 0 (.cp l)=some (.cp (l.drop 0)):=by kernel_rfl
theorem yl6 (ax:Axs) (S:TS) (b off N:Nat):zab (EE ax) S 43 2 (.ptr b off N)=bif S.has b N then some (.ptr b (off+2) N) else none:=by kernel_rfl
theorem yln (ax:Axs) (S:TS) (l:List T):zab (EE ax) S 43 2 (.cp l)=some (.cp (l.drop 2)):=by kernel_rfl
theorem yl5 (ax:Axs) (S:TS) (b off N:Nat):zab (EE ax) S 43 3 (.ptr b off N)=bif S.has b N then some (.ptr b (off+3) N) else none:=by kernel_rfl
noncomputable def fs43:Array Field:=match Tryz.prog.underlying 43 with|some (.struct fs)=>fs|_=>#[]
theorem ti43 (ax:Axs):(EE ax).ti.at 43=some ⟨.struct fs43,4,40,[.string ⟨#[]⟩,.bool false,.int .i64 0,.int .i64 0]⟩:=by kernel_rfl
theorem ti45 (ax:Axs):(EE ax).ti.at 45=some ⟨.slice 78,1,24,[.slice none 0 0]⟩:=by kernel_rfl
theorem sr45 (ax:Axs):srcT (EE ax) 45=true:=by kernel_rfl
theorem tz60 (ax:Axs):(EE ax).ti.at 60=some ⟨.array 10 3,10,80,zVs 10 .i64⟩:=by kernel_rfl
theorem yl4 (ax:Axs) (S:TS) (b off N:Nat):zab (EE ax) S 65 0 (.ptr b off N)=bif S.has b N then some (.ptr b (off+0) N) else none:=by kernel_rfl
theorem ylm (ax:Axs) (S:TS) (l:List T):zab (EE ax) S 65 0 (.cp l)=some (.cp (l.drop 0)):=by kernel_rfl
theorem yl3 (ax:Axs) (S:TS) (b off N:Nat):zab (EE ax) S 65 1 (.ptr b off N)=bif S.has b N then some (.ptr b (off+1) N) else none:=by kernel_rfl
theorem yll (ax:Axs) (S:TS) (l:List T):zab (EE ax) S 65 1 (.cp l)=some (.cp (l.drop 1)):=by kernel_rfl
theorem yl2 (ax:Axs) (S:TS) (b off N:Nat):zab (EE ax) S 65 2 (.ptr b off N)=bif S.has b N then some (.ptr b (off+2) N) else none:=by kernel_rfl
noncomputable def fs65:Array Field:=match Tryz.prog.underlying 65 with|some (.struct fs)=>fs|_=>#[]
theorem ti65 (ax:Axs):(EE ax).ti.at 65=some ⟨.struct fs65,3,24,[.int .i64 0,.int .i64 0,.int .i64 0]⟩:=by kernel_rfl
theorem sr66 (ax:Axs):srcT (EE ax) 66=true:=by kernel_rfl
theorem yl1 (ax:Axs) (S:TS) (b off N:Nat):zab (EE ax) S 78 0 (.ptr b off N)=bif S.has b N then some (.ptr b (off+0) N) else none:=by kernel_rfl
theorem ylk (ax:Axs) (S:TS) (l:List T):zab (EE ax) S 78 0 (.cp l)=some (.cp (l.drop 0)):=by kernel_rfl
theorem yl0 (ax:Axs) (S:TS) (b off N:Nat):zab (EE ax) S 78 1 (.ptr b off N)=bif S.has b N then some (.ptr b (off+1) N) else none:=by kernel_rfl
theorem ylj (ax:Axs) (S:TS) (l:List T):zab (EE ax) S 78 1 (.cp l)=some (.cp (l.drop 1)):=by kernel_rfl
theorem ylz (ax:Axs) (S:TS) (b off N:Nat):zab (EE ax) S 78 2 (.ptr b off N)=bif S.has b N then some (.ptr b (off+2) N) else none:=by kernel_rfl
theorem yli (ax:Axs) (S:TS) (l:List T):zab (EE ax) S 78 2 (.cp l)=some (.cp (l.drop 2)):=by kernel_rfl
noncomputable def fs78:Array Field:=match Tryz.prog.underlying 78 with|some (.struct fs)=>fs|_=>#[]
theorem bt78 (ax:Axs) (ρ:d8->T) (parts:List (Nat×d8)):zku (EE ax) ρ 78 parts=aggO (zfb [.int .i64 0,.int .i64 0,.slice none 0 0] (zdn (zg7 (EE ax) fs78) ρ parts)):=by kernel_rfl
theorem ti78 (ax:Axs):(EE ax).ti.at 78=some ⟨.struct fs78,3,40,[.int .i64 0,.int .i64 0,.slice none 0 0]⟩:=by kernel_rfl
theorem yd7 (ax:Axs):zg7 (EE ax) fs78 0=some (0,1):=by kernel_rfl
theorem yd6 (ax:Axs):zg7 (EE ax) fs78 1=some (1,1):=by kernel_rfl
theorem ypo (ax:Axs):zg7 (EE ax) fs78 2=some (2,1):=by kernel_rfl
theorem ti79 (ax:Axs):(EE ax).ti.at 79=some ⟨.slice 9,1,24,[.slice none 0 0]⟩:=by kernel_rfl
theorem sr79 (ax:Axs):srcT (EE ax) 79=true:=by kernel_rfl
theorem ylh (ax:Axs) (S:TS) (l:List T):zab (EE ax) S 85 0 (.cp l)=some (.cp (l.drop 0)):=by kernel_rfl
theorem ylg (ax:Axs) (S:TS) (l:List T):zab (EE ax) S 85 1 (.cp l)=some (.cp (l.drop 1)):=by kernel_rfl
noncomputable def fs85:Array Field:=match Tryz.prog.underlying 85 with|some (.struct fs)=>fs|_=>#[]
theorem ti85 (ax:Axs):(EE ax).ti.at 85=some ⟨.struct fs85,2,24,[.string ⟨#[]⟩,.int .i64 0]⟩:=by kernel_rfl
theorem yly (ax:Axs) (S:TS) (b off N:Nat):zab (EE ax) S 91 0 (.ptr b off N)=bif S.has b N then some (.ptr b (off+0) N) else none:=by kernel_rfl
theorem ylx (ax:Axs) (S:TS) (b off N:Nat):zab (EE ax) S 91 1 (.ptr b off N)=bif S.has b N then some (.ptr b (off+1) N) else none:=by kernel_rfl
theorem ylw (ax:Axs) (S:TS) (b off N:Nat):zab (EE ax) S 91 2 (.ptr b off N)=bif S.has b N then some (.ptr b (off+2) N) else none:=by kernel_rfl
theorem ylv (ax:Axs) (S:TS) (b off N:Nat):zab (EE ax) S 91 3 (.ptr b off N)=bif S.has b N then some (.ptr b (off+3) N) else none:=by kernel_rfl
theorem ylu (ax:Axs) (S:TS) (b off N:Nat):zab (EE ax) S 91 4 (.ptr b off N)=bif S.has b N then some (.ptr b (off+4) N) else none:=by kernel_rfl
theorem ylt (ax:Axs) (S:TS) (b off N:Nat):zab (EE ax) S 91 5 (.ptr b off N)=bif S.has b N then some (.ptr b (off+5) N) else none:=by kernel_rfl
noncomputable def fs91:Array Field:=match Tryz.prog.underlying 91 with|some (.struct fs)=>fs|_=>#[]
theorem ti91 (ax:Axs):(EE ax).ti.at 91=some ⟨.struct fs91,6,80,[.int .i64 0,.string ⟨#[]⟩,.slice none 0 0,.string ⟨#[]⟩,.int .i64 0,.int .i64 0]⟩:=by kernel_rfl
theorem ti98 (ax:Axs):(EE ax).ti.at 98=some ⟨.map 106 37,1,8,[.map none]⟩:=by kernel_rfl
theorem ti99 (ax:Axs):(EE ax).ti.at 99=some ⟨.slice 106,1,24,[.slice none 0 0]⟩:=by kernel_rfl
theorem sr99 (ax:Axs):srcT (EE ax) 99=true:=by kernel_rfl
def yhz:List Value:=[.int .i64 0,.int .i64 0,.int .i64 0,.int .i64 0,.int .i64 0,.int .i64 0,.int .i64 0,.int .i64 0,.int .i64 0,.int .i64 0,.int .i64 0,.int .i64 0,.int .i64 0,.int .i64 0,.int .i64 0,.int .i64 0,.int .i64 0,.int .i64 0,.int .i64 0,.int .i64 0]
theorem yb3:zf6 yhz=some ((zA 10).l.map (dy .i64)++((zA 10).l.map (dy .i64))):=rfl
theorem z1l:yhz.length=20:=rfl
theorem ygq (ax:Axs) (S:TS) (b off N:Nat):zab (EE ax) S 101 0 (.ptr b off N)=bif S.has b N then some (.ptr b (off+0) N) else none:=by kernel_rfl
theorem ygp (ax:Axs) (S:TS) (b off N:Nat):zab (EE ax) S 101 1 (.ptr b off N)=bif S.has b N then some (.ptr b (off+10) N) else none:=by kernel_rfl
theorem ygc (ax:Axs) (S:TS) (l:List T):zab (EE ax) S 101 1 (.cp l)=some (.cp (l.drop 10)):=by kernel_rfl
noncomputable def yi9:Array Field:=match Tryz.prog.underlying 101 with|some (.struct fs)=>fs|_=>#[]
theorem yqf (ax:Axs) (ρ:d8->T) (parts:List (Nat×d8)):zku (EE ax) ρ 101 parts=aggO (zfb yhz (zdn (zg7 (EE ax) yi9) ρ parts)):=by kernel_rfl
theorem yo9 (ax:Axs):(EE ax).ti.at 101=some ⟨.struct yi9,20,160,yhz⟩:=by kernel_rfl
theorem yed (ax:Axs):zg7 (EE ax) yi9 0=some (0,10):=by kernel_rfl
theorem yec (ax:Axs):zg7 (EE ax) yi9 1=some (10,10):=by kernel_rfl
theorem yo8 (ax:Axs):(EE ax).ti.at 102=some ⟨.slice 120,1,24,[.slice none 0 0]⟩:=by kernel_rfl
def yb2:List Value:=[.int .i64 0,.int .i64 0,.int .i64 0,.int .i64 0,.int .i64 0,.int .i64 0,.int .i64 0,.int .i64 0,.int .i64 0,.int .i64 0,.int .i64 0,.int .i64 0,.int .i64 0,.int .i64 0,.int .i64 0,.int .i64 0,.int .i64 0,.int .i64 0,.int .i64 0,.int .i64 0,.int .i64 0,.int .i64 0,.slice none 0 0]
theorem yb1:zf6 yb2=some (dy .i64 0 :: ((zA 10).l.map (dy .i64)++((zA 10).l.map (dy .i64)++[dy .i64 0,T.nils]))):=rfl
theorem z1k:yb2.length=23:=rfl
theorem ygo (ax:Axs) (S:TS) (b off N:Nat):zab (EE ax) S 104 0 (.ptr b off N)=bif S.has b N then some (.ptr b (off+0) N) else none:=by kernel_rfl
theorem ygb (ax:Axs) (S:TS) (l:List T):zab (EE ax) S 104 0 (.cp l)=some (.cp (l.drop 0)):=by kernel_rfl
theorem ygn (ax:Axs) (S:TS) (b off N:Nat):zab (EE ax) S 104 1 (.ptr b off N)=bif S.has b N then some (.ptr b (off+1) N) else none:=by kernel_rfl
theorem yga (ax:Axs) (S:TS) (l:List T):zab (EE ax) S 104 1 (.cp l)=some (.cp (l.drop 1)):=by kernel_rfl
theorem ygm (ax:Axs) (S:TS) (b off N:Nat):zab (EE ax) S 104 2 (.ptr b off N)=bif S.has b N then some (.ptr b (off+21) N) else none:=by kernel_rfl
theorem ygl (ax:Axs) (S:TS) (b off N:Nat):zab (EE ax) S 104 3 (.ptr b off N)=bif S.has b N then some (.ptr b (off+22) N) else none:=by kernel_rfl
theorem yf9 (ax:Axs) (S:TS) (l:List T):zab (EE ax) S 104 3 (.cp l)=some (.cp (l.drop 22)):=by kernel_rfl
noncomputable def yn2:Array Field:=match Tryz.prog.underlying 104 with|some (.struct fs)=>fs|_=>#[]
theorem yo7 (ax:Axs):(EE ax).ti.at 104=some ⟨.struct yn2,23,200,yb2⟩:=by kernel_rfl
theorem ygk (ax:Axs) (S:TS) (b off N:Nat):zab (EE ax) S 106 0 (.ptr b off N)=bif S.has b N then some (.ptr b (off+0) N) else none:=by kernel_rfl
theorem yn5 (ax:Axs) (S:TS) (l:List T):zab (EE ax) S 106 0 (.cp l)=some (.cp (l.drop 0)):=by kernel_rfl
theorem ygj (ax:Axs) (S:TS) (b off N:Nat):zab (EE ax) S 106 1 (.ptr b off N)=bif S.has b N then some (.ptr b (off+1) N) else none:=by kernel_rfl
theorem yn4 (ax:Axs) (S:TS) (l:List T):zab (EE ax) S 106 1 (.cp l)=some (.cp (l.drop 1)):=by kernel_rfl
noncomputable def yfz:Array Field:=match Tryz.prog.underlying 106 with|some (.struct fs)=>fs|_=>#[]
theorem yqe (ax:Axs) (ρ:d8->T) (parts:List (Nat×d8)):zku (EE ax) ρ 106 parts=aggO (zfb [.int .i64 0,.int .i64 0] (zdn (zg7 (EE ax) yfz) ρ parts)):=by kernel_rfl
theorem z46 (ax:Axs):(EE ax).ti.at 106=some ⟨.struct yfz,2,16,[.int .i64 0,.int .i64 0]⟩:=by kernel_rfl
theorem yeb (ax:Axs):zg7 (EE ax) yfz 0=some (0,1):=by kernel_rfl
theorem yea (ax:Axs):zg7 (EE ax) yfz 1=some (1,1):=by kernel_rfl
def ymz:List Value:=[.int .i64 0,.int .i64 0,.int .i64 0,.int .i64 0,.int .i64 0,.int .i64 0,.int .i64 0,.int .i64 0,.int .i64 0,.int .i64 0,.int .i64 0,.int .i64 0,.int .i64 0,.int .i64 0,.int .i64 0,.int .i64 0,.int .i64 0,.int .i64 0,.int .i64 0,.int .i64 0]
theorem yb0:zf6 ymz=some ((zA 10).l.map (dy .i64)++((zA 10).l.map (dy .i64))):=rfl
theorem z1j:ymz.length=20:=rfl
theorem ygi (ax:Axs) (S:TS) (b off N:Nat):zab (EE ax) S 119 0 (.ptr b off N)=bif S.has b N then some (.ptr b (off+0) N) else none:=by kernel_rfl
theorem ygh (ax:Axs) (S:TS) (b off N:Nat):zab (EE ax) S 119 1 (.ptr b off N)=bif S.has b N then some (.ptr b (off+10) N) else none:=by kernel_rfl
noncomputable def fs119:Array Field:=match Tryz.prog.underlying 119 with|some (.struct fs)=>fs|_=>#[]
theorem yo6 (ax:Axs):(EE ax).ti.at 119=some ⟨.struct fs119,20,160,ymz⟩:=by kernel_rfl
theorem yo5 (ax:Axs):(EE ax).ti.at 120=some ⟨.slice 123,1,24,[.slice none 0 0]⟩:=by kernel_rfl
def ybz:List Value:=[.int .i64 0,.int .i64 0,.int .i64 0,.int .i64 0,.int .i64 0,.int .i64 0,.int .i64 0,.int .i64 0,.int .i64 0,.int .i64 0,.int .i64 0,.int .i64 0,.int .i64 0,.int .i64 0,.int .i64 0,.int .i64 0,.int .i64 0,.int .i64 0,.int .i64 0,.int .i64 0,.int .i64 0]
theorem yby:zf6 ybz=some (dy .i64 0 :: ((zA 10).l.map (dy .i64)++((zA 10).l.map (dy .i64)))):=rfl
theorem z1i:ybz.length=21:=rfl
theorem ygg (ax:Axs) (S:TS) (b off N:Nat):zab (EE ax) S 123 0 (.ptr b off N)=bif S.has b N then some (.ptr b (off+0) N) else none:=by kernel_rfl
theorem ygf (ax:Axs) (S:TS) (b off N:Nat):zab (EE ax) S 123 1 (.ptr b off N)=bif S.has b N then some (.ptr b (off+1) N) else none:=by kernel_rfl
noncomputable def yfy:Array Field:=match Tryz.prog.underlying 123 with|some (.struct fs)=>fs|_=>#[]
theorem yqd (ax:Axs) (ρ:d8->T) (parts:List (Nat×d8)):zku (EE ax) ρ 123 parts=aggO (zfb ybz (zdn (zg7 (EE ax) yfy) ρ parts)):=by kernel_rfl
theorem yo4 (ax:Axs):(EE ax).ti.at 123=some ⟨.struct yfy,21,168,ybz⟩:=by kernel_rfl
theorem yd9 (ax:Axs):zg7 (EE ax) yfy 0=some (0,1):=by kernel_rfl
theorem yd8 (ax:Axs):zg7 (EE ax) yfy 1=some (1,20):=by kernel_rfl
theorem yge (ax:Axs) (S:TS) (b off N:Nat):zab (EE ax) S 135 0 (.ptr b off N)=bif S.has b N then some (.ptr b (off+0) N) else none:=by kernel_rfl
theorem ygd (ax:Axs) (S:TS) (b off N:Nat):zab (EE ax) S 135 1 (.ptr b off N)=bif S.has b N then some (.ptr b (off+1) N) else none:=by kernel_rfl
noncomputable def fs135:Array Field:=match Tryz.prog.underlying 135 with|some (.struct fs)=>fs|_=>#[]
theorem yo3 (ax:Axs):(EE ax).ti.at 135=some ⟨.struct fs135,2,32,[.slice none 0 0,.int .i64 0]⟩:=by kernel_rfl
noncomputable def yp3:TypeDesc:=match Tryz.prog.underlying 162 with|some d=>d|none=>.bool
theorem yo2 (ax:Axs):(EE ax).ti.at 162=some ⟨yp3,1,8,[.nilFunc]⟩:=by kernel_rfl
theorem yqn:aggT yp3=false:=by kernel_rfl
theorem el37 (ax:Axs):zc0 (EE ax) 37=some ⟨.int .i64,1,8,[.int .i64 0]⟩:=by kernel_rfl
theorem el40 (ax:Axs):zc0 (EE ax) 40=some ⟨.struct yn2,23,200,yb2⟩:=by kernel_rfl
theorem el41 (ax:Axs):zc0 (EE ax) 41=some ⟨.struct yn2,23,200,yb2⟩:=by kernel_rfl
theorem el45 (ax:Axs):zc0 (EE ax) 45=some ⟨.struct fs78,3,40,[.int .i64 0,.int .i64 0,.slice none 0 0]⟩:=by kernel_rfl
theorem el66 (ax:Axs):zc0 (EE ax) 66=some ⟨.array 10 3,10,80,(zVs 10 .i64)⟩:=by kernel_rfl
theorem el79 (ax:Axs):zc0 (EE ax) 79=some ⟨.string,1,16,[.string ⟨#[]⟩]⟩:=by kernel_rfl
theorem el99 (ax:Axs):zc0 (EE ax) 99=some ⟨.struct yfz,2,16,[.int .i64 0,.int .i64 0]⟩:=by kernel_rfl
theorem yp6 (ax:Axs):zc0 (EE ax) 102=some ⟨.slice 123,1,24,[.slice none 0 0]⟩:=by kernel_rfl
theorem yp5 (ax:Axs):zc0 (EE ax) 120=some ⟨.struct yfy,21,168,ybz⟩:=by kernel_rfl
instance:Inhabited ByteArray:=⟨⟨#[]⟩⟩
theorem zbh {α:Type} {n:Nat} {f:α->T} (h:∀ x,(f x).ids n=true):∀ (l:List α),fy n (l.map f)=true
  |[]=>rfl
  |x :: l=>by simp only [gb,fy,h,zbh h l,et]
theorem zhn {α:Type} {n:Nat} {f:α->T} (h:∀ x,fy n (f x).cells=true):∀ (l:List α),fy n (vecC f l)=true
  |[]=>rfl
  |x :: l=>by
    have:=zhn h l;unfold vecC at this ⊢;rw [gb,ij,zag,h,this];rfl
def ints (l:List Int):T:=.lst 1 (l.map (dy .i64))
theorem zn2 {n:Nat} (l:List Int):(ints l).ids n=true:=zbh (fun _=>rfl) l
theorem z3k {n:Nat} (l:List Int):fy n (l.map (dy .i64))=true:=zbh (fun _=>rfl) l
def yny (l:List (Ar 10)):T:=.lst 10 (l.map (eAr .i64))
theorem z3n {n:Nat} (l:List (Ar 10)):(yny l).ids n=true:=zbh (fun x=>z8v x) l
theorem zyq {n:Nat} (l:List (Ar 10)):fy n (l.map (eAr .i64))=true:=zbh (fun x=>z8v x) l
theorem zyi {n:Nat} (l:List (Ar 10)):fy n (vecC (eAr .i64) l)=true:=zhn (fun x=>zdz x.l) l
def strs (l:List ByteArray):T:=.lst 1 (l.map l6)
theorem zte {n:Nat} (l:List ByteArray):(strs l).ids n=true:=zbh (fun _=>rfl) l
theorem z3i {n:Nat} (l:List ByteArray):fy n (l.map l6)=true:=zbh (fun _=>rfl) l
structure Node where
  name:ByteArray
  box:Bool
  rules:Int
  entries:Int
deriving Inhabited,DecidableEq
def zqx (x:Node):T:=.agg ([l6 x.name,oy x.box,dy .i64 x.rules,dy .i64 x.entries])
theorem ybe {n:Nat} (x:Node):fy n (zqx x).cells=true:=by simp only [zqx,gd,jg,fy,zag,zdz,et]
theorem zqm {n:Nat} (x:Node):(zqx x).ids n=true:=by simp only [zqx,jg,fy,zag,zdz,et]
structure Offl where
  node:Int
  port:Int
  tag:Int
  out:Int
  back:Int
  first:Int
deriving Inhabited,DecidableEq
def z0y (x:Offl):T:=.agg ([dy .i64 x.node,dy .i64 x.port,dy .i64 x.tag,dy .i64 x.out,dy .i64 x.back,dy .i64 x.first])
theorem ybd {n:Nat} (x:Offl):fy n (z0y x).cells=true:=by simp only [z0y,gd,jg,fy,zag,zdz,et]
theorem zql {n:Nat} (x:Offl):(z0y x).ids n=true:=by simp only [z0y,jg,fy,zag,zdz,et]
structure Link where
  frm:Int
  to:Int
  cap:Int
deriving Inhabited,DecidableEq
def zqy (x:Link):T:=.agg ([dy .i64 x.frm,dy .i64 x.to,dy .i64 x.cap])
theorem ybf {n:Nat} (x:Link):fy n (zqy x).cells=true:=by simp only [zqy,gd,jg,fy,zag,zdz,et]
theorem zqn {n:Nat} (x:Link):(zqy x).ids n=true:=by simp only [zqy,jg,fy,zag,zdz,et]
structure zgk where
  port:Int
  tag:Int
  rules:List Int
deriving Inhabited,DecidableEq
def zga (x:zgk):T:=.agg ([dy .i64 x.port,dy .i64 x.tag,ints x.rules])
theorem z6b {n:Nat} (x:zgk):fy n (zga x).cells=true:=by simp only [zga,gd,jg,fy,zag,zdz,zn2,et]
theorem zn4 {n:Nat} (x:zgk):(zga x).ids n=true:=by simp only [zga,jg,fy,zag,zdz,zn2,et]
structure Edge where
  name:ByteArray
  node:Int
deriving Inhabited,DecidableEq
def zqz (x:Edge):T:=.agg ([l6 x.name,dy .i64 x.node])
theorem ybg {n:Nat} (x:Edge):fy n (zqz x).cells=true:=by simp only [zqz,gd,jg,fy,zag,zdz,et]
theorem zqo {n:Nat} (x:Edge):(zqz x).ids n=true:=by simp only [zqz,jg,fy,zag,zdz,et]
def zbn (l:List Node):T:=.lst 4 (l.map zqx)
theorem zvm {n:Nat} (l:List Node):(zbn l).ids n=true:=zbh (fun x=>zqm x) l
theorem zym {n:Nat} (l:List Node):fy n (l.map zqx)=true:=zbh (fun x=>zqm x) l
theorem zyf {n:Nat} (l:List Node):fy n (vecC zqx l)=true:=zhn (fun x=>ybe x) l
def zbo (l:List Link):T:=.lst 3 (l.map zqy)
theorem zvn {n:Nat} (l:List Link):(zbo l).ids n=true:=zbh (fun x=>zqn x) l
theorem zyn {n:Nat} (l:List Link):fy n (l.map zqy)=true:=zbh (fun x=>zqn x) l
theorem zyg {n:Nat} (l:List Link):fy n (vecC zqy l)=true:=zhn (fun x=>ybf x) l
def zbp (l:List Edge):T:=.lst 2 (l.map zqz)
theorem zvo {n:Nat} (l:List Edge):(zbp l).ids n=true:=zbh (fun x=>zqo x) l
theorem zyp {n:Nat} (l:List Edge):fy n (l.map zqz)=true:=zbh (fun x=>zqo x) l
theorem zyh {n:Nat} (l:List Edge):fy n (vecC zqz l)=true:=zhn (fun x=>ybg x) l
structure Net where
  nodes:List Node
  links:List Link
  edges:List Edge
deriving Inhabited,DecidableEq
def eNet (x:Net):T:=.agg ([zbn x.nodes,zbo x.links,zbp x.edges])
theorem z8u {n:Nat} (x:Net):(eNet x).ids n=true:=by simp only [eNet,jg,fy,zag,zdz,zvm,zvn,zvo,et]
structure zeo where
  kind:Int
  var:ByteArray
  key:List ByteArray
  field:ByteArray
  n:Int
  m:Int
deriving Inhabited,DecidableEq
def zha (x:zeo):T:=.agg ([dy .i64 x.kind,l6 x.var,strs x.key,l6 x.field,dy .i64 x.n,dy .i64 x.m])
theorem z6a {n:Nat} (x:zeo):fy n (zha x).cells=true:=by simp only [zha,gd,jg,fy,zag,zdz,zte,et]
theorem zn3 {n:Nat} (x:zeo):(zha x).ids n=true:=by simp only [zha,jg,fy,zag,zdz,zte,et]
structure Pat where
  mask:Ar 10
  bits:Ar 10
deriving Inhabited,DecidableEq
def ePat (x:Pat):T:=.agg (x.mask.l.map (dy .i64)++(x.bits.l.map (dy .i64)))
theorem z8t {n:Nat} (x:Pat):(ePat x).ids n=true:=by simp only [ePat,jg,fy,zag,zdz,et]
theorem zl6 (x:Pat):(ePat x).cells.length=20:=by simp only [ePat,gd,eh,gh,zu8,ec,Ar.len]
def ztx (x:Pat):List Value:=x.mask.l.map (ju .i64)++(x.bits.l.map (ju .i64))
def yc4:List CK:=ew 10 (CK.int .i64)++(ew 10 (CK.int .i64))
theorem z7i (x:Pat):zf8 (x.mask.l.map (dy .i64)++(x.bits.l.map (dy .i64)))=some (ztx x):=(zlr (zp1 _) (zp1 _))
theorem z9a (x:Pat):zfi yc4 (ztx x)=true:=(z6e _ (z88 _))
theorem yhv (a b:Pat):a=b↔a.mask=b.mask/\a.bits=b.bits:=by cases a;cases b;simp
theorem yme (a b:Pat):eqVs (ztx a) (ztx b)=decide (a=b):=by
  rw [Bool.eq_iff_iff];simp [ztx,ygr,z6h,eqVs,zso,and_assoc,yhv]
structure Spot where
  port:Int
  tag:Int
deriving Inhabited,DecidableEq
def zd8 (x:Spot):T:=.agg ([dy .i64 x.port,dy .i64 x.tag])
theorem ybb {n:Nat} (x:Spot):fy n (zd8 x).cells=true:=by simp only [zd8,gd,jg,fy,zag,zdz,et]
theorem zqj {n:Nat} (x:Spot):(zd8 x).ids n=true:=by simp only [zd8,jg,fy,zag,zdz,et]
structure Alt where
  link:Int
  mod:Pat
deriving Inhabited,DecidableEq
def eAlt (x:Alt):T:=.agg (dy .i64 x.link :: (x.mod.mask.l.map (dy .i64)++(x.mod.bits.l.map (dy .i64))))
theorem yfk {n:Nat} (x:Alt):fy n (eAlt x).cells=true:=by simp only [eAlt,gd,jg,fy,zag,zdz,et]
theorem ztg {n:Nat} (x:Alt):(eAlt x).ids n=true:=by simp only [eAlt,jg,fy,zag,zdz,et]
theorem zl7 (x:Alt):(eAlt x).cells.length=21:=by simp only [eAlt,gd,eh,gh,zu8,ec,Ar.len]
def zty (x:Alt):List Value:=ju .i64 x.link :: (x.mod.mask.l.map (ju .i64)++(x.mod.bits.l.map (ju .i64)))
def yc5:List CK:=CK.int .i64 :: (ew 10 (CK.int .i64)++(ew 10 (CK.int .i64)))
theorem z7j (x:Alt):zf8 (dy .i64 x.link :: (x.mod.mask.l.map (dy .i64)++(x.mod.bits.l.map (dy .i64))))=some (zty x):=(z5j rfl (zlr (zp1 _) (zp1 _)))
theorem z9b (x:Alt):zfi yc5 (zty x)=true:=(yf3 (yp9 _ _) (z6e _ (z88 _)))
theorem yoy (a b:Alt):a=b↔a.link=b.link/\a.mod=b.mod:=by cases a;cases b;simp
theorem ymf (a b:Alt):eqVs (zty a) (zty b)=decide (a=b):=by
  rw [Bool.eq_iff_iff];simp [zty,ygr,z6h,eqVs,zso,and_assoc,yhv,yoy]
def lAlt (l:List Alt):T:=.lst 21 (l.map eAlt)
theorem ztf {n:Nat} (l:List Alt):(lAlt l).ids n=true:=zbh (fun x=>ztg x) l
theorem z3j {n:Nat} (l:List Alt):fy n (l.map eAlt)=true:=zbh (fun x=>ztg x) l
theorem z3h {n:Nat} (l:List Alt):fy n (vecC eAlt l)=true:=zhn (fun x=>yfk x) l
def zf4 (l:List (List Alt)):T:=.lst 1 (l.map lAlt)
theorem zqi {n:Nat} (l:List (List Alt)):(zf4 l).ids n=true:=zbh (fun x=>ztf x) l
theorem zyo {n:Nat} (l:List (List Alt)):fy n (l.map lAlt)=true:=zbh (fun x=>ztf x) l
theorem z4j (x:List Alt):(lAlt x).cells=[lAlt x]:=d6 rfl rfl
theorem z2v (x:List Alt):jn (lAlt x)=true:=d6 rfl rfl
structure Rule where
  prio:Int
  mat:Pat
  step:Int
  outs:List (List Alt)
deriving Inhabited,DecidableEq
def ze9 (x:Rule):T:=.agg (dy .i64 x.prio :: (x.mat.mask.l.map (dy .i64)++(x.mat.bits.l.map (dy .i64)++[dy .i64 x.step,zf4 x.outs])))
theorem ybc {n:Nat} (x:Rule):fy n (ze9 x).cells=true:=by simp only [ze9,gd,jg,fy,zag,zdz,zqi,et]
theorem zqk {n:Nat} (x:Rule):(ze9 x).ids n=true:=by simp only [ze9,jg,fy,zag,zdz,zqi,et]
theorem zj1 (x:Rule):(ze9 x).cells.length=23:=by simp only [ze9,gd,eh,gh,zu8,ec,Ar.len]
def zcp (l:List Rule):T:=.lst 23 (l.map ze9)
theorem zqh {n:Nat} (l:List Rule):(zcp l).ids n=true:=zbh (fun x=>zqk x) l
theorem zyk {n:Nat} (l:List Rule):fy n (l.map ze9)=true:=zbh (fun x=>zqk x) l
theorem zyd {n:Nat} (l:List Rule):fy n (vecC ze9 l)=true:=zhn (fun x=>ybc x) l
def zam (l:List (List Rule)):T:=.lst 1 (l.map zcp)
theorem zn1 {n:Nat} (l:List (List Rule)):(zam l).ids n=true:=zbh (fun x=>zqh x) l
theorem zvk {n:Nat} (l:List (List Rule)):fy n (l.map zcp)=true:=zbh (fun x=>zqh x) l
theorem zzd (x:List Rule):(zcp x).cells=[zcp x]:=d6 rfl rfl
theorem zx0 (x:List Rule):jn (zcp x)=true:=d6 rfl rfl
def zau (l:List zeo):T:=.lst 6 (l.map zha)
theorem zn0 {n:Nat} (l:List zeo):(zau l).ids n=true:=zbh (fun x=>zn3 x) l
theorem zvj {n:Nat} (l:List zeo):fy n (l.map zha)=true:=zbh (fun x=>zn3 x) l
theorem zvh {n:Nat} (l:List zeo):fy n (vecC zha l)=true:=zhn (fun x=>z6a x) l
structure zaw where
  version:Int
  tables:List (List Rule)
  steps:List zeo
deriving Inhabited,DecidableEq
def zd5 (x:zaw):T:=.agg ([dy .i64 x.version,zam x.tables,zau x.steps])
theorem zvp {n:Nat} (x:zaw):(zd5 x).ids n=true:=by simp only [zd5,jg,fy,zag,zdz,zn1,zn0,et]
structure yqu where
  c:zaw
  e:Int
deriving Inhabited,DecidableEq
def z9l (x:yqu):T:=.agg ([dy .i64 x.c.version,zam x.c.tables,zau x.c.steps,dy .i64 x.e])
theorem zys {n:Nat} (x:yqu):(z9l x).ids n=true:=by simp only [z9l,jg,fy,zag,zdz,zn1,zn0,et]
structure yhx where
  links:List Int
  node:Int
deriving Inhabited,DecidableEq
def ztm (x:yhx):T:=.agg ([ints x.links,dy .i64 x.node])
theorem zsi {n:Nat} (x:yhx):(ztm x).ids n=true:=by simp only [ztm,jg,fy,zag,zdz,zn2,et]
def zmg (l:List zgk):T:=.lst 3 (l.map zga)
theorem zyr {n:Nat} (l:List zgk):(zmg l).ids n=true:=zbh (fun x=>zn4 x) l
theorem zvl {n:Nat} (l:List zgk):fy n (l.map zga)=true:=zbh (fun x=>zn4 x) l
theorem zvi {n:Nat} (l:List zgk):fy n (vecC zga l)=true:=zhn (fun x=>z6b x) l
def ynx (l:List Offl):T:=.lst 6 (l.map z0y)
theorem z3m {n:Nat} (l:List Offl):(ynx l).ids n=true:=zbh (fun x=>zql x) l
theorem zyl {n:Nat} (l:List Offl):fy n (l.map z0y)=true:=zbh (fun x=>zql x) l
theorem zye {n:Nat} (l:List Offl):fy n (vecC z0y l)=true:=zhn (fun x=>ybd x) l
def ynw (l:List Spot):T:=.lst 2 (l.map zd8)
theorem z3l {n:Nat} (l:List Spot):(ynw l).ids n=true:=zbh (fun x=>zqj x) l
theorem zyj {n:Nat} (l:List Spot):fy n (l.map zd8)=true:=zbh (fun x=>zqj x) l
theorem zyc {n:Nat} (l:List Spot):fy n (vecC zd8 l)=true:=zhn (fun x=>ybb x) l
theorem yjz (ax:Axs) (a b:Pat):(∀ (S:TS) (x y:d8),tBin Tryz.prog (EE ax) S 101 .eql x y (.agg (a.mask.l.map (dy .i64)++(a.bits.l.map (dy .i64)))) (.agg (b.mask.l.map (dy .i64)++(b.bits.l.map (dy .i64))))=some (.bool (decide (a=b))))/\(∀ (S:TS) (x y:d8),tBin Tryz.prog (EE ax) S 101 .neq x y (.agg (a.mask.l.map (dy .i64)++(a.bits.l.map (dy .i64)))) (.agg (b.mask.l.map (dy .i64)++(b.bits.l.map (dy .i64))))=some (.bool (!(decide (a=b))))):=⟨fun _ _ _=>(zzt (sh:=yc4) (by kernel_rfl) (by kernel_rfl) (z7i a) (z7i b) (z9a a) (z9a b) (yme a b)).1,fun _ _ _=>(zzt (sh:=yc4) (by kernel_rfl) (by kernel_rfl) (z7i a) (z7i b) (z9a a) (z9a b) (yme a b)).2⟩
theorem yqj (ax:Axs) (a b:Alt):(∀ (S:TS) (x y:d8),tBin Tryz.prog (EE ax) S 123 .eql x y (.agg (dy .i64 a.link :: (a.mod.mask.l.map (dy .i64)++(a.mod.bits.l.map (dy .i64))))) (.agg (dy .i64 b.link :: (b.mod.mask.l.map (dy .i64)++(b.mod.bits.l.map (dy .i64)))))=some (.bool (decide (a=b))))/\(∀ (S:TS) (x y:d8),tBin Tryz.prog (EE ax) S 123 .neq x y (.agg (dy .i64 a.link :: (a.mod.mask.l.map (dy .i64)++(a.mod.bits.l.map (dy .i64))))) (.agg (dy .i64 b.link :: (b.mod.mask.l.map (dy .i64)++(b.mod.bits.l.map (dy .i64)))))=some (.bool (!(decide (a=b))))):=⟨fun _ _ _=>(zzt (sh:=yc5) (by kernel_rfl) (by kernel_rfl) (z7j a) (z7j b) (z9b a) (z9b b) (ymf a b)).1,fun _ _ _=>(zzt (sh:=yc5) (by kernel_rfl) (by kernel_rfl) (z7j a) (z7j b) (z9b a) (z9b b) (ymf a b)).2⟩
theorem eqA:type_of% (dm (dm (dm (dm (@ints.eq_1) (dm (@yny.eq_1) (@strs.eq_1))) (dm (@zqx.eq_1) (dm (@z0y.eq_1) (@zqy.eq_1)))) (dm (dm (@zga.eq_1) (dm (@zqz.eq_1) (@zbn.eq_1))) (dm (@zbo.eq_1) (dm (@zbp.eq_1) (@eNet.eq_1))))) (dm (dm (dm (@zha.eq_1) (dm (@ePat.eq_1) (@zd8.eq_1))) (dm (@eAlt.eq_1) (dm (@lAlt.eq_1) (@zf4.eq_1)))) (dm (dm (@z4j) (dm (@z2v) (@ze9.eq_1))) (dm (@zcp.eq_1) (dm (@zam.eq_1) (@zzd)))))):=dm (dm (dm (dm (@ints.eq_1) (dm (@yny.eq_1) (@strs.eq_1))) (dm (@zqx.eq_1) (dm (@z0y.eq_1) (@zqy.eq_1)))) (dm (dm (@zga.eq_1) (dm (@zqz.eq_1) (@zbn.eq_1))) (dm (@zbo.eq_1) (dm (@zbp.eq_1) (@eNet.eq_1))))) (dm (dm (dm (@zha.eq_1) (dm (@ePat.eq_1) (@zd8.eq_1))) (dm (@eAlt.eq_1) (dm (@lAlt.eq_1) (@zf4.eq_1)))) (dm (dm (@z4j) (dm (@z2v) (@ze9.eq_1))) (dm (@zcp.eq_1) (dm (@zam.eq_1) (@zzd)))))
theorem eqB:type_of% (dm (dm (dm (dm (@zx0) (@zau.eq_1)) (dm (@zd5.eq_1) (@z9l.eq_1))) (dm (dm (@ztm.eq_1) (@zmg.eq_1)) (dm (@ynx.eq_1) (@ynw.eq_1)))) (dm (dm (dm (@yb3) (@z1l)) (dm (@yb1) (@z1k))) (dm (dm (@yb0) (@z1j)) (dm (@yby) (@z1i))))):=dm (dm (dm (dm (@zx0) (@zau.eq_1)) (dm (@zd5.eq_1) (@z9l.eq_1))) (dm (dm (@ztm.eq_1) (@zmg.eq_1)) (dm (@ynx.eq_1) (@ynw.eq_1)))) (dm (dm (dm (@yb3) (@z1l)) (dm (@yb1) (@z1k))) (dm (dm (@yb0) (@z1j)) (dm (@yby) (@z1i))))
theorem eqsA:type_of% (dm (dm (dm (dm (@ynh) (dm (@sgT) (@sgT1))) (dm (@sgD) (dm (@sgD1) (@sgG)))) (dm (dm (@splA) (dm (@ypg) (@ypf))) (dm (@splS) (dm (@yhl) (@z4x))))) (dm (dm (dm (@zu8) (dm (@yho) (@z1q))) (dm (@z33) (dm (@yk1) (@ypz)))) (dm (dm (@yk0) (dm (@yfc) (@ygw))) (dm (@yoz) (dm (@Ar.len) (@z0z)))))):=dm (dm (dm (dm (@ynh) (dm (@sgT) (@sgT1))) (dm (@sgD) (dm (@sgD1) (@sgG)))) (dm (dm (@splA) (dm (@ypg) (@ypf))) (dm (@splS) (dm (@yhl) (@z4x))))) (dm (dm (dm (@zu8) (dm (@yho) (@z1q))) (dm (@z33) (dm (@yk1) (@ypz)))) (dm (dm (@yk0) (dm (@yfc) (@ygw))) (dm (@yoz) (dm (@Ar.len) (@z0z)))))
theorem eqsB:type_of% (dm (dm (dm (@z4p) (@z1e)) (dm (@ymo) (@sub0))) (dm (dm (@z67) (@z07)) (dm (@ych) (dm (@ymp) (@yhp))))):=dm (dm (dm (@z4p) (@z1e)) (dm (@ymo) (@sub0))) (dm (dm (@z67) (@z07)) (dm (@ych) (dm (@ymp) (@yhp))))
theorem idsA:type_of% (dm (dm (dm (dm (@zn2) (dm (@z3k) (@z3n))) (dm (@zyq) (dm (@zyi) (@zte)))) (dm (dm (@z3i) (dm (@zqm) (@zql))) (dm (@zqn) (dm (@zn4) (@zqo))))) (dm (dm (dm (@zvm) (dm (@zym) (@zyf))) (dm (@zvn) (dm (@zyn) (@zyg)))) (dm (dm (@zvo) (dm (@zyp) (@zyh))) (dm (@z8u) (dm (@zn3) (@z8t)))))):=dm (dm (dm (dm (@zn2) (dm (@z3k) (@z3n))) (dm (@zyq) (dm (@zyi) (@zte)))) (dm (dm (@z3i) (dm (@zqm) (@zql))) (dm (@zqn) (dm (@zn4) (@zqo))))) (dm (dm (dm (@zvm) (dm (@zym) (@zyf))) (dm (@zvn) (dm (@zyn) (@zyg)))) (dm (dm (@zvo) (dm (@zyp) (@zyh))) (dm (@z8u) (dm (@zn3) (@z8t)))))
theorem idsB:type_of% (dm (dm (dm (dm (@zqj) (dm (@ztg) (@ztf))) (dm (@z3j) (dm (@z3h) (@zqi)))) (dm (dm (@zyo) (dm (@zqk) (@zqh))) (dm (@zyk) (dm (@zyd) (@zn1))))) (dm (dm (dm (@zvk) (dm (@zn0) (@zvj))) (dm (@zvh) (dm (@zvp) (@zys)))) (dm (dm (@zsi) (dm (@zyr) (@zvl))) (dm (@zvi) (dm (@z3m) (@zyl)))))):=dm (dm (dm (dm (@zqj) (dm (@ztg) (@ztf))) (dm (@z3j) (dm (@z3h) (@zqi)))) (dm (dm (@zyo) (dm (@zqk) (@zqh))) (dm (@zyk) (dm (@zyd) (@zn1))))) (dm (dm (dm (@zvk) (dm (@zn0) (@zvj))) (dm (@zvh) (dm (@zvp) (@zys)))) (dm (dm (@zsi) (dm (@zyr) (@zvl))) (dm (@zvi) (dm (@z3m) (@zyl)))))
theorem idsC:type_of% (dm (dm (dm (@zye) (@z3l)) (dm (@zyj) (@zyc))) (dm (dm (@z8v) (@zdz)) (dm (@yfl) (@zag)))):=dm (dm (dm (@zye) (@z3l)) (dm (@zyj) (@zyc))) (dm (dm (@z8v) (@zdz)) (dm (@yfl) (@zag)))
structure yot (ax:Axs):Prop where
  no:∀ f,Nat.beq f 8=false->ax f=none
  san:Pure Tryz.prog (EE ax) [] 8 [] (.bool true)
theorem Pure.clr {P:ep} {Γ:Env} {GL:List (Nat×List Value)} {f:FuncId} {args:List T} {v v2:T} {S:TS} (k:Pure P Γ GL f args v) (e:v=v2):zaj P Γ GL f args S v2:=e ▸ k.call S
end Go.Proofs.YteifcnjpjjaikaaGreat
