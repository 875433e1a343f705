/- Part 7 of the proof of MergeStepsAsSpecified (several texts in one; no further condition). -/
import Derived.Test.YtkfnjbfnkpameaaZE
import Derived.Test.YtkfnjbfnkpameaaZD
import Derived.KernelRfl
import Derived.Test.YtkfnjbfnkpameaaZF
set_option linter.unusedSimpArgs false
set_option linter.unusedVariables false
set_option linter.unusedSectionVars false
namespace Go.Proofs.Ytkfnjbfnkpameaa
set_option maxHeartbeats 8000000
open _root_.And renaming intro->fd
open _root_.Bool renaming and_eq_true->fj,and_self->gc,false_and->rz,false_or->md,not_eq_false'->pn,not_false->il,not_true->iv,or_eq_true->l7,or_self->ny,or_true->nh,true_and->jy,true_or->nw
open Go.Proofs.Ytkfnjbfnkpameaa.Bx renaming le_refl->mf
open Go.Proofs.Ytkfnjbfnkpameaa.CS renaming readRow->ol
open _root_.Eq renaming trans->f6
open Go.Proofs.Ytkfnjbfnkpameaa.Fr renaming get_put_same->rh
open Go renaming FuncId->mc,Operand->f7,Program->gn,ResultVar->q8
open _root_.Int renaming eq_ofNat_of_zero_le->jt
open Go.IntKind renaming i64->fi
open Go.Proofs.Ytkfnjbfnkpameaa.Left renaming trans->qe
open _root_.List renaming all_cons->jn,all_eq_true->ib,append_assoc->gj,append_nil->gt,cons_append->gq,drop_append->mh,drop_left->rv,drop_of_length_le->iw,drop_succ_cons->kv,drop_zero->gp,flatMap_cons->jb,flatten_cons->ii,flatten_nil->iy,getD_eq_getElem?_getD->fo,getElem?_append_left->gi,getElem?_append_right->im,getElem?_cons_succ->lh,getElem?_cons_zero->gz,getElem?_drop->lc,getElem?_eq_getElem->fk,getElem?_eq_some_iff->ge,getElem?_map->lj,getElem?_take->mu,length_append->fx,length_cons->gh,length_map->fq,length_nil->je,length_take->ik,map_append->nd,map_cons->i4,mem_append->io,mem_cons->kj,mem_of_getElem?->jl,mem_of_mem_drop->m5,nil_append->gg,replicate->gb,set_cons_succ->lw,set_cons_zero->ld,take_append_drop->i9,take_left->ru
open _root_.Nat renaming beq->fy,beq_refl->ja,ble->h9,blt->ic,eq_of_beq_eq_true->fl,le_max_left->ky,le_max_right->li,le_refl->fp,le_trans->jv,reduceAdd->fw,reduceEqDiff->ft,reduceLT->iq,reduceLeDiff->jz,reduceMul->jg,reduceSub->iz,testBit->i6,testBit_two_pow_sub_one->ml,zero_add->i5,zero_le->ir
open _root_.Option renaming bind_some->ff
open _root_.Option.some renaming injEq->fe
open _root_.Prod.mk renaming injEq->fm
open _root_.Sum renaming elim->ks
open Go.Proofs.Ytkfnjbfnkpameaa.T renaming idsL->kb,int->fh,ren->qo,renL->oq
open Go.Proofs.Ytkfnjbfnkpameaa.TW renaming block->gl,cond->sr,loopT->jj,region->nm,ret->sf,seq->fg
open Go.Proofs.Ytkfnjbfnkpameaa.zal renaming call->gd
open Go.Proofs.Ytkfnjbfnkpameaa.zvz renaming refl->su
set_option maxRecDepth 100000
open Go Go.RowKit
def nlI:Option (List Int)->T
  |none=>.nils
  |some l=>.lst 1 (l.map (fh .i64))
theorem zat {n:Nat} (o:Option (List Int)):(nlI o).ids n=true:=by
  cases o with
  |none=>rfl
  |some l=>exact zp1 l
theorem zd3 {P:gn} {Γ:Env} {S:TS} {t:TypeId} {op:BinOp} {x y:f7} {m n:Bool}:tBin P Γ S t op x y (.bool m) (.bool n)=(Γ.ti.at t).bind fun i=>match i.desc,op with|.bool,.eql=>some (.bool (m == n))|.bool,.neq=>some (.bool (!(m == n)))|_,_=>none:=by
  unfold tBin;cases Γ.ti.at t<;>rfl
theorem zkt:(true == true)=true:=f6 rfl rfl
theorem zku:(true == false)=false:=f6 rfl rfl
theorem zkv:(false == true)=false:=f6 rfl rfl
theorem zkw:(false == false)=true:=f6 rfl rfl
def atR (rl:List Nat) (i:Nat):Nat:=rl.getD i 0
def memB:List Nat->Nat->Bool
  |[],_=>false
  |y :: l,x=>fy y x || memB l x
def zw8:List Nat->Bool
  |[]=>true
  |x :: l=>!(memB l x) && zw8 l
def rlOk (n0 n1 m m':Nat) (rl:List Nat):Bool :=
  h9 n0 n1 && (fy rl.length n1 && (h9 m m' && (rl.all (fun x=>ic x m') && ((rl.take n0).all (fun x=>ic x m) && ((rl.drop n0).all (fun x=>h9 m x) && zw8 rl)))))
def PreL (ρ:Nat->Nat) (n:Nat) (bs:List Box):List Nat->List Box->Prop
  |r :: rl,b :: bl=>(bs.getD r .gone=zer ρ b/\zhv n b=true)/\PreL ρ n bs rl bl
  |_,_=>True
def zv0 (rl:List Nat):Nat->List Box->List Box->Prop
  |i,a :: l,b :: m=>(memB rl i=true\/b=a)/\zv0 rl (i+1) l m
  |i,[],b :: m=>memB rl i=true/\zv0 rl (i+1) [] m
  |_,_,[]=>True
theorem PreL.get {ρ:Nat->Nat} {n:Nat} {bs:List Box}:∀ {rl:List Nat} {bl:List Box},PreL ρ n bs rl bl->∀ i,i<rl.length->i<bl.length->bs.getD (rl.getD i 0) .gone=zer ρ (bl.getD i .gone)/\zhv n (bl.getD i .gone)=true
  |r :: rl,b :: bl,h,0,_,_=>h.1
  |r :: rl,b :: bl,h,i+1,h1,h2=>PreL.get (rl:=rl) (bl:=bl) h.2 i (by simpa using h1) (by simpa using h2)
theorem zv0.get {rl:List Nat}:∀ {i:Nat} {l m:List Box},zv0 rl i l m->l.length<=m.length->∀ b,memB rl (i+b)=false->m.getD b .gone=l.getD b .gone
  |i,a :: l,b :: m,h,hl,0,hm=>by
    rcases h.1 with q|q
    . rw [Nat.add_zero] at hm;rw [hm] at q;cases q
    . exact q
  |i,a :: l,b :: m,h,hl,k+1,hm=>zv0.get (l:=l) (m:=m) h.2 (by simpa using hl) k (by rw [show i+1+k=i+(k+1) by omega];exact hm)
  |i,[],b :: m,h,hl,0,hm=>by have q:=h.1;rw [Nat.add_zero] at hm;rw [hm] at q;cases q
  |i,[],b :: m,h,hl,k+1,hm=>zv0.get (l:=[]) (m:=m) h.2 (ir _) k (by rw [show i+1+k=i+(k+1) by omega];exact hm)
  |i,[],[],h,hl,k,hm=>rfl
theorem zsx {p:Nat->Bool}:∀ {l:List Nat},l.all p=true->∀ i,i<l.length->p (l.getD i 0)=true
  |x :: l,h,0,_=>by simp only [jn,fj] at h;exact h.1
  |x :: l,h,i+1,hi=>by
    simp only [jn,fj] at h;exact zsx (l:=l) h.2 i (by simpa using hi)
theorem zzo:∀ {l:List Nat} {i:Nat},i<l.length->memB l (l.getD i 0)=true
  |x :: l,0,_=>by show (fy x x || memB l x)=true;rw [ja];rfl
  |x :: l,i+1,h=>by
    show (fy x (l.getD i 0) || memB l (l.getD i 0))=true;rw [zzo (l:=l) (by simpa using h),nh]
theorem zw7:∀ {l:List Nat},zw8 l=true->∀ i j,i<l.length->j<l.length->l.getD i 0=l.getD j 0->i=j
  |x :: l,h,0,0,_,_,_=>rfl
  |x :: l,h,0,j+1,_,hj,e=>by
    simp only [zw8,fj,Bool.not_eq_true'] at h;have:=zzo (l:=l) (i:=j) (by simpa using hj);rw [show l.getD j 0=x from e.symm] at this;rw [h.1] at this;cases this
  |x :: l,h,i+1,0,hi,_,e=>by
    simp only [zw8,fj,Bool.not_eq_true'] at h;have:=zzo (l:=l) (i:=i) (by simpa using hi);rw [show l.getD i 0=x from e] at this;rw [h.1] at this;cases this
  |x :: l,h,i+1,j+1,hi,hj,e=>by
    simp only [zw8,fj] at h;rw [zw7 (l:=l) h.2 i j (by simpa using hi) (by simpa using hj) e]
theorem ybc {bs:List Box} {b:Nat} (h:bs.length<=b):(stL bs).box b=.gone:=by
  show bs.getD b .gone=.gone;rw [fo,List.getElem?_eq_none h];rfl
theorem yl2 {rl:List Nat} {bs0 bs1 bs bs':List Box} (h1:rlOk bs0.length bs1.length bs.length bs'.length rl=true) (h4:PreL (atR rl) bs0.length bs rl bs0) (h5:PreL (atR rl) bs1.length bs' rl bs1) (h6:zv0 rl 0 bs bs'):Fits (atR rl) (stL bs0) (stL bs1) (stL bs) (stL bs'):=by
  unfold rlOk at h1;simp only [fj] at h1;obtain ⟨a1,a2,a3,a4,a5,a6,a7⟩:=h1;have a1:=zav.1 a1;have a2:=fl a2;have a3:=zav.1 a3;refine ⟨a1,fun b hb=>ybc hb,fun i hi=>?_,fun i hi hj=>?_,fun i hi=>?_,a3,fun i j hi hj e=>?_,fun i hi=>?_,fun i hi=>?_,fun b hb=>?_⟩
  . have hi:i<bs0.length:=hi;have:=zsx a5 i (by rw [ik];omega);rw [fo,mu,zAc hi,<- fo] at this;exact zad.1 this
  . have hi:bs0.length<=i:=hi;have hj:i<bs1.length:=hj;have:=zsx a6 (i - bs0.length) (by rw [List.length_drop];omega);rw [fo,lc,show bs0.length+(i - bs0.length)=i by omega,<- fo] at this;exact zav.1 this
  . have hi:i<bs1.length:=hi;exact zad.1 (zsx a4 i (by omega))
  . exact zw7 a7 i j (by rw [a2];exact hi) (by rw [a2];exact hj) e
  . have hi:i<bs0.length:=hi;exact h4.get i (by omega) hi
  . have hi:i<bs1.length:=hi;exact h5.get i (by omega) hi
  . refine h6.get a3 b ?_;rw [i5]
    cases hm:memB rl b with
    |false=>rfl
    |true =>
      exfalso
      have key:∀ {l:List Nat},memB l b=true->∃ i,i<l.length/\l.getD i 0=b:=by
        intro l
        induction l with
        |nil=>intro h;cases h
        |cons x l ih =>
          intro h;simp only [memB,l7] at h;rcases h with h|h
          . exact ⟨0,by simp,fl h⟩
          . obtain ⟨i,h1,h2⟩:=ih h;exact ⟨i+1,by simpa using h1,h2⟩
      obtain ⟨i,q1,q2⟩:=key hm;exact hb i (by show i<bs1.length;omega) q2
theorem Call.at {P:gn} {Γ:Env} {GL:List (Nat×List Value)} {f:mc} {args args':List T} {v v':T} {bs0 bs1 bs bs':List Box} (rl:List Nat) (k:Call P Γ GL f args (stL bs0) v (stL bs1)) (h1:rlOk bs0.length bs1.length bs.length bs'.length rl=true) (h2:kb bs0.length args=true) (h3:v.ids bs1.length=true) (h4:PreL (atR rl) bs0.length bs rl bs0) (h5:PreL (atR rl) bs1.length bs' rl bs1) (h6:zv0 rl 0 bs bs') (ea:oq (atR rl) args=args') (ev:v.ren (atR rl)=v'):Call P Γ GL f args' (stL bs) v' (stL bs'):=by
  subst ea ev;exact Call.frame k h2 h3 (yl2 h1 h4 h5 h6)
theorem znr {α:Type} [Inhabited α] (f:α->T) (e:Nat) (he:∀ x,(f x).cells.length=e):∀ {l:List α} {i:Nat},i<l.length->vecC f l=vecC f (l.take i)++((f (l.getD i default)).cells++vecC f (l.drop (i+1)))/\(vecC f (l.take i)).length=i*e
  |x :: l,0,_=>⟨by show vecC f (x :: l)=[]++((f x).cells++vecC f l);unfold vecC;simp,by simp [vecC]⟩
  |x :: l,i+1,h=>by
    obtain ⟨h1,h2⟩:=znr f e he (l:=l) (i:=i) (by simpa using h);have c:∀ m:List α,vecC f (x :: m)=(f x).cells++vecC f m:=fun m=>by unfold vecC;simp
    constructor
    . show vecC f (x :: l)=vecC f (x :: l.take i)++((f (l.getD i default)).cells++vecC f (l.drop (i+1)));rw [c,c,gj,<- h1]
    . show (vecC f (x :: l.take i)).length=(i+1)*e;rw [c,fx,he,h2,Nat.add_mul];omega
theorem ybe {a b b2 c:List T} {n:Nat} (ha:a.length=n) (hb:b2.length=b.length):spl (a++(b++c)) n b2=a++(b2++c):=by
  subst ha;unfold spl;rw [ru,mh,iw (by omega),gg,show a.length+b2.length - a.length=b.length by omega,rv,gj]
theorem zyq {α:Type} [Inhabited α] (f:α->T) (e:Nat) {l:List α} {i:Nat} (v:α) (he:∀ x,(f x).cells.length=e) (h:i<l.length):spl (vecC f l) (i*e) (f v).cells=vecC f (l.set i v):=by
  obtain ⟨h1,h2⟩:=znr f e he h;obtain ⟨h3,h4⟩:=znr f e he (l:=l.set i v) (i:=i) (by rw [List.length_set];exact h);have hc:=he (l.getD i default);have hv:=he v;rw [h3,List.take_set_of_le (fp _),List.drop_set_of_lt (by omega)];rw [show (l.set i v).getD i default=v by rw [fo,List.getElem?_set_self h];rfl];rw [h1];exact ybe h2 (by omega)
theorem zsn {α:Type} {S:TS} {b n e:Nat} {z:Bool} {L:List α} {f:α->T} (h1:∀ x,(f x).cells.length=e) (h0:0<e) (hS:S.box b=.cells z (n*e) (vecC f L)) (hl:L.length=n):yht S (.arr b e 0 n n (n*e)) (.lst e (L.map f)):=by
  refine .inr ⟨b,e,0,n,n,n*e,z,_,_,rfl,rfl,hS,h0,by omega,?_,fun t ht=>?_,by rw [fq];exact hl,fp _⟩
  . rw [gp];exact zc5 h1 hl
  . obtain ⟨x,_,rfl⟩:=List.mem_map.1 ht;exact h1 x
noncomputable def lsOf (o:Oper):Option (Nat×Nat):=match o.op with
  |.load _ (.tmp a)=>some (0,a)
  |.store _ (.tmp a) _=>some (1,a)
  |.alloc _=>(match o.dst with|some d=>some (2,d)|none=>none)
  |.box _ _=>(match o.dst with|some d=>some (2,d)|none=>none)
  |.makeSlice _ _ _=>(match o.dst with|some d=>some (2,d)|none=>none)
  |.buildSlice _ _ _=>(match o.dst with|some d=>some (2,d)|none=>none)
  |_=>none
noncomputable def zi9 (a:Nat) (l:List Oper):Bool:=l.all fun o=>match o.dst with|some d=>!(fy d a)|none=>true
noncomputable def zlc (k a:Nat) (o:Oper) (l:List Oper):Bool:=zi9 a l && (fy k 2 || zi9 a [o])
noncomputable def z4q:List (Nat×Option Nat)->Nat->Option (Option Nat)
  |[],_=>none
  |(a,b) :: l,x=>bif fy a x then some b else z4q l x
noncomputable def zuj (bx:List (Nat×Option Nat)) (o:Oper) (l:List Oper):Option (Nat×Option Nat):=match lsOf o with
  |some (w,a)=>bif zlc w a o l then (match z4q bx a with|some b=>some (w,b)|none=>none) else none
  |none=>none
noncomputable def tagS (bx:List (Nat×Option Nat)):Nat->List Oper->List (Bool×Oper×Option (Nat×Option Nat))
  |_,[]=>[]
  |0,o :: l=>(true,o,zuj bx o l) :: tagS bx 0 l
  |k+1,o :: l=>(false,o,zuj bx o l) :: tagS bx k l
noncomputable def ycp:Option Nat->Option Nat->Bool
  |some a,some b=>!(fy a b)
  |none,none=>false
  |_,_=>true
noncomputable def z9y (p q:Option (Nat×Option Nat)):Bool:=match p,q with
  |some (w1,b1),some (w2,b2)=>h9 w2 1 && ((fy w1 0 && fy w2 0) || ycp b1 b2)
  |_,_=>false
noncomputable def znc (Γ:Env) (o:Oper):Bool:=match o.op with
  |.call ⟨.builtin .len,_,ts⟩=>(match ts.toList with | [t]=>(match Γ.ti.at t with|some i=>(match i.desc with|.slice _=>true|.string=>true|_=>false)|none=>false)|_=>false)
  |.call ⟨.builtin .min,_,_⟩=>true
  |.call ⟨.builtin .max,_,_⟩=>true
  |_=>false
noncomputable def z7c (Γ:Env) (x y:Bool×Oper×Option (Nat×Option Nat)):Bool:=y.1 && !(zi1 x.2.1.op || (zi8 y.2.1.op || (znc Γ x.2.1 || (znc Γ y.2.1 || z9y x.2.2 y.2.2))))
noncomputable def zu4 (Γ:Env) (k:Nat) (bx:List (Nat×Option Nat)) (ops:List Oper):Bool:=zjy ops.length ops && zgo (z7c Γ) [] (tagS bx k ops) (zdn ops [])
def adr1 (S:TS):T->Option Nat->Prop
  |.ptr b _ N,some c=>b=c/\S.has b N=true
  |.cp _,none=>True
  |.arr b _ _ _ _ N,some c=>b=c/\S.has b N=true
  |_,_=>False
def zyk (bx:List (Nat×Option Nat)) (h:Nat->T) (S:TS):Prop:=match bx with
  |[]=>True
  |(a,b) :: l=>adr1 S (h a) b/\zyk l h S
theorem zns {bx:List (Nat×Option Nat)}:∀ {k:Nat} {ops:List Oper} {i:Nat} {o:Oper},ops[i]?=some o->(tagS bx k ops)[i]?=some (decide (k<=i),o,zuj bx o (ops.drop (i+1)))
  |_,[],i,o,h=>by simp at h
  |0,x :: l,i,o,h=>by
    cases i with
    |zero=>simp only [gz,fe] at h;subst h;rfl
    |succ i =>
      have:=zns (bx:=bx) (k:=0) (ops:=l) (i:=i) (by simpa using h)
      simpa [tagS] using this
  |k+1,x :: l,i,o,h=>by
    cases i with
    |zero=>simp only [gz,fe] at h;subst h;rfl
    |succ i =>
      have:=zns (bx:=bx) (k:=k) (ops:=l) (i:=i) (by simpa using h);simpa [tagS] using this
theorem z2x {Γ:Env} {k:Nat} {bx:List (Nat×Option Nat)} {ops:List Oper} (hd:zu4 Γ k bx ops=true) {i j:Nat} {x y:Oper} (hij:i<j) (hkj:k<=j) (hx:ops[i]?=some x) (hy:ops[j]?=some y):i6 (nth 0 (zdn ops []) j) i=true\/zi1 x.op=true\/zi8 y.op=true\/znc Γ x=true\/znc Γ y=true\/z9y (zuj bx x (ops.drop (i+1))) (zuj bx y (ops.drop (j+1)))=true:=by
  unfold zu4 at hd;simp only [fj] at hd;rcases zf7 hd.2 i j _ _ hij (ir _) (by simpa using zns hx) (by simpa using zns hy) with q|q
  . exact .inl q
  . unfold z7c at q;rw [zAa hkj] at q;simp only [jy,pn,l7] at q;exact .inr q
theorem yg5 {bx:List (Nat×Option Nat)} {x y:Oper} {l m:List Oper} (h:z9y (zuj bx x l) (zuj bx y m)=true):∃ w1 a1 b1 w2 a2 b2,lsOf x=some (w1,a1)/\zlc w1 a1 x l=true/\z4q bx a1=some b1/\lsOf y=some (w2,a2)/\zlc w2 a2 y m=true/\z4q bx a2=some b2/\w2<=1/\((w1=0/\w2=0)\/ycp b1 b2=true):=by
  have key:∀ {o:Oper} {l:List Oper} {w b},zuj bx o l=some (w,b)->∃ a,lsOf o=some (w,a)/\zlc w a o l=true/\z4q bx a=some b:=by
    intro o l w b h;unfold zuj at h;split at h
    . rename_i w' a' h1
      cases h2:zlc w' a' o l with
      |false=>rw [h2] at h;simp at h
      |true =>
        rw [h2,cond_true] at h;split at h
        . rename_i b' h3;cases h;exact ⟨a',h1,h2,h3⟩
        . simp at h
    . simp at h
  cases h1:zuj bx x l with
  |none=>rw [h1] at h;simp [z9y] at h
  |some p =>
    cases h2:zuj bx y m with
    |none=>rw [h1,h2] at h;simp [z9y] at h
    |some q =>
      obtain ⟨w1,b1⟩:=p;obtain ⟨w2,b2⟩:=q;rw [h1,h2] at h;obtain ⟨a1,c1,c2,c3⟩:=key h1;obtain ⟨a2,d1,d2,d3⟩:=key h2;simp only [z9y,l7,fj] at h;refine ⟨w1,a1,b1,w2,a2,b2,c1,c2,c3,d1,d2,d3,zav.1 h.1,?_⟩;rcases h.2 with q|q
      . exact .inl ⟨fl q.1,fl q.2⟩
      . exact .inr q
theorem z0h {h:Nat->T} {S:TS}:∀ {bx:List (Nat×Option Nat)} {a:Nat} {b:Option Nat},zyk bx h S->z4q bx a=some b->adr1 S (h a) b
  |(a',b') :: l,a,b,k,e=>by
    unfold z4q at e
    cases hb:fy a' a with
    |true =>
      rw [hb,cond_true] at e;cases e;rw [<- fl hb];exact k.1
    |false =>
      rw [hb,cond_false] at e;exact z0h k.2 e
section
variable {GL:List (Nat×List Value)} {A A' A0:Nat->Prop} {β β':Bx} {S S':TS} {s s0 s' s2:CS} {P:gn} {Γ:Env} {N:Nat} {h h':Nat->T} {call:zed}
def IsAd (v:Value) (ad:Addr):Prop:=v=.pointer (some ad)\/∃ n c,v=.slice (some ad) n c
def yae (fr:Fr) (w:Nat) (a:Nat) (x:Lg):Prop:=(x.rd=[]/\x.wr=[]/\x.lo=x.hi)\/∃ ad,IsAd (fr.get a) ad/\(∀ y,y∈x.rd->y=ad.block)/\(∀ y,y∈x.wr->y=ad.block)/\(x.lo=x.hi\/(x.hi=x.lo+1/\x.lo=ad.block))/\(w=0->x.wr=[])/\(w<=1->x.lo=x.hi)
theorem zzw {fr:Fr} {d:Option Tmp} {v:Value} {a:Nat} (h5:fr.nt<=512) (hd:(match d with|some d=>!(fy d a)|none=>true)=true):(putC fr d v).get a=fr.get a:=by
  cases d with
  |none=>rfl
  |some d =>
    refine Fr.get_put_other v h5 fun e=>?_;subst e;simp at hd
theorem zqh {ops:List Oper} {a:Nat}:∀ {l:List Oper} {fr fr':Fr} {s s':CS} {L:List Lg},drawC P Γ call ops l fr s=some (L,fr',s')->fr.nt<=512->zi9 a l=true->fr'.get a=fr.get a
  |[],fr,fr',s,s',L,hc,_,_=>by
    simp only [drawC,fe,fm] at hc;rw [hc.2.1]
  |o :: l,fr,fr',s,s',L,hc,h5,hn=>by
    simp only [drawC] at hc;unfold zi9 at hn;rw [jn,fj] at hn;split at hc
    . rename_i fr1 t h1;split at hc
      . rename_i logs fr2 s2 h2;cases hc
        have e:∃ v,fr1=putC fr o.dst v:=by
          unfold zcs at h1
          cases hw:zc8 ops fr o with
          |false =>
            rw [hw] at h1;simp only [cond_false,fe,fm] at h1;exact ⟨_,h1.1.symm⟩
          |true =>
            rw [hw,cond_true] at h1;split at h1
            . cases h1;exact ⟨_,rfl⟩
            . simp at h1
        obtain ⟨v,rfl⟩:=e;rw [zqh h2 (by rw [ztx];exact h5) hn.2];exact zzw h5 hn.1
      . simp at hc
    . simp at hc
theorem yds {lim n y:Nat} (h:y∈ins lim [] n):y=n:=by
  unfold ins at h
  cases hb:ic n lim with
  |false=>rw [hb] at h;simp at h
  |true =>
    rw [hb] at h;have:has ([]:List Nat) n=false:=rfl;rw [cond_true,this,cond_false] at h;simpa using h
theorem yc0 {s s1:CS} {tag:Nat} {cs:List Value} {a:Addr} (h:s.newRow tag cs=some (a,s1)):s1.rd=s.rd/\s1.wr=s.wr/\s1.n=s.n+1/\a.block=s.n:=by
  unfold CS.newRow at h;generalize (zmb s.obj s.n:Bool)=b at h
  cases b with
  |true=>cases h;exact ⟨rfl,rfl,rfl,rfl⟩
  |false=>cases h
theorem ych {s s1:CS} {tag:Nat} {cs:List Value} {v:Value} (h:ptrC (s.inner.newRow tag cs)=some (v,s1)):s1.rd=[]/\s1.wr=[]/\s1.n=s.n+1/\∃ ad,IsAd v ad/\ad.block=s.n:=by
  unfold ptrC at h;split at h
  . rename_i x hx;cases h;obtain ⟨a,t⟩:=x;obtain ⟨h1,h2,h3,h4⟩:=yc0 hx;exact ⟨h1,h2,h3,a,.inl rfl,h4⟩
  . simp at h
theorem z0w {s s1:CS} {tag l c:Nat} {cs:List Value} {v:Value} (h:zhz l c (s.inner.newRow tag cs)=some (v,s1)):s1.rd=[]/\s1.wr=[]/\s1.n=s.n+1/\∃ ad,IsAd v ad/\ad.block=s.n:=by
  unfold zhz at h;split at h
  . rename_i x hx;cases h;obtain ⟨a,t⟩:=x;obtain ⟨h1,h2,h3,h4⟩:=yc0 hx;exact ⟨h1,h2,h3,a,.inr ⟨_,_,rfl⟩,h4⟩
  . simp at h
theorem yn0 {o:Oper} {fr:Fr} {s s1:CS} {v:Value} {w:Nat} {a:Nat} (ho:lsOf o=some (w,a)) (hc:cop P Γ call (zg6 fr) o s.inner=some (v,s1)):(w<=1/\s1.n=s.n/\∃ ad,fr.get a=.pointer (some ad)/\(w=0->s1.wr=[])/\(∀ y,y∈s1.rd->y=ad.block)/\(∀ y,y∈s1.wr->y=ad.block))\/(w=2/\o.dst=some a/\s1.rd=[]/\s1.wr=[]/\s1.n=s.n+1/\∃ ad,IsAd v ad/\ad.block=s.n):=by
  unfold lsOf at ho;split at ho
  . rename_i t a' hop;cases ho;unfold cop at hc;rw [hop] at hc;simp only [zg6] at hc;unfold zrs at hc;split at hc
    . rename_i ad had;split at hc
      . rename_i i hi;unfold CS.loadVar at hc;split at hc
        . rename_i cs s3 hr;split at hc
          . cases hc;unfold ol at hr;split at hr
            . cases hr;exact .inl ⟨by omega,rfl,ad,had,fun _=>rfl,fun y hy=>yds hy,fun y hy=>by cases hy⟩
            . simp at hr
          . simp at hc
        . simp at hc
      . simp at hc
    . simp at hc
  . rename_i t a' vv hop;cases ho;unfold cop at hc;rw [hop] at hc;change zm4 Γ s.inner t (zg6 fr vv).cells.toList (fr.get a)=_ at hc;generalize (zg6 fr vv).cells.toList=vs at hc;unfold zm4 at hc;split at hc
    . rename_i ad had;split at hc
      . rename_i i hi
        cases hb:fy vs.length i.size with
        |false=>rw [hb] at hc;simp at hc
        |true =>
          rw [hb,cond_true] at hc;unfold z94 at hc;split at hc
          . rename_i s2 hw;cases hc;unfold CS.write at hw;split at hw
            . generalize ((h9 _ _ && vs.all oneC):Bool)=bb at hw
              cases bb with
              |true =>
                cases hw;exact .inl ⟨by omega,rfl,ad,had,fun e=>(by cases e),fun y hy=>(by cases hy),fun y hy=>yds hy⟩
              |false=>cases hw
            . simp at hw
          . simp at hc
      . simp at hc
    . simp at hc
  . rename_i e hop;split at ho
    . rename_i d hd;cases ho;refine .inr ⟨rfl,hd,?_⟩;unfold cop at hc;rw [hop] at hc;simp only at hc;unfold zm6 at hc;split at hc
      . exact ych hc
      . simp at hc
    . simp at ho
  . rename_i e x hop;split at ho
    . rename_i d hd;cases ho;refine .inr ⟨rfl,hd,?_⟩;unfold cop at hc;rw [hop] at hc;exact ych hc
    . simp at ho
  . rename_i e l c hop;split at ho
    . rename_i d hd;cases ho;refine .inr ⟨rfl,hd,?_⟩;unfold cop at hc;rw [hop] at hc;simp only at hc;unfold ze6 at hc;split at hc
      . rename_i j l' c' _ _ _
        cases hb:(h9 l' c' && h9 (c'*(j.bytes+1)) 1000000000 && ic 0 j.size) with
        |false=>rw [hb] at hc;simp at hc
        |true =>
          rw [hb,cond_true] at hc;exact z0w hc
      . simp at hc
    . simp at ho
  . rename_i e n parts hop;split at ho
    . rename_i d hd;cases ho;refine .inr ⟨rfl,hd,?_⟩;unfold cop at hc;rw [hop] at hc;simp only at hc;unfold zcf at hc;split at hc
      . rename_i j _
        cases hb:(h9 (n*j.size) 16777216 && ic 0 j.size) with
        |false=>rw [hb] at hc;simp at hc
        |true =>
          rw [hb,cond_true] at hc;split at hc
          . exact z0w hc
          . simp at hc
      . simp at hc
    . simp at ho
  . simp at ho
theorem zu3 {ops:List Oper}:∀ {l:List Oper} {fr fr':Fr} {s s':CS} {L:List Lg},drawC P Γ call ops l fr s=some (L,fr',s')->fr.nt<=512->zfb fr.nt l=true->∀ (j:Nat) (o:Oper) (x:Lg) (w:Nat) (a:Nat),l[j]?=some o->L[j]?=some x->lsOf o=some (w,a)->zlc w a o (l.drop (j+1))=true->yae fr' w a x
  |[],fr,fr',s,s',L,hc,_,_,j,o,x,w,a,hj,_,_,_=>by simp at hj
  |o :: l,fr,fr',s,s',L,hc,h5,hdo,j,o',x,w,a,hj,hx,ho,hn=>by
    have hc0:=hc;simp only [drawC] at hc;split at hc
    . rename_i fr1 t h1;split at hc
      . rename_i logs fr2 s2 h2;cases hc
        have hfr:∃ v,fr1=putC fr o.dst v:=by
          unfold zcs at h1
          cases hw:zc8 ops fr o with
          |false =>
            rw [hw] at h1;simp only [cond_false,fe,fm] at h1;exact ⟨_,h1.1.symm⟩
          |true =>
            rw [hw,cond_true] at h1;split at h1
            . cases h1;exact ⟨_,rfl⟩
            . simp at h1
        have hnt:fr1.nt=fr.nt:=by obtain ⟨v,rfl⟩:=hfr;exact ztx _ _ _
        unfold zfb at hdo;rw [jn,fj] at hdo
        cases j with
        |zero =>
          simp only [gz,fe] at hj hx;subst hj;subst hx;unfold zlc at hn;simp only [fj,l7] at hn;obtain ⟨hn1,hn2⟩:=hn;have hg1:=zqh h2 (by rw [hnt];exact h5) (show zi9 a l=true by simpa using hn1);unfold zcs at h1
          cases hw:zc8 ops fr o with
          |false =>
            rw [hw] at h1;simp only [cond_false,fe,fm] at h1;rw [<- h1.2];exact .inl ⟨rfl,rfl,rfl⟩
          |true =>
            rw [hw,cond_true] at h1;split at h1
            . rename_i v s1 hcop;cases h1;rcases yn0 ho hcop with ⟨q0,q1,ad,q2,q3,q4,q5⟩|⟨q0,q1,q2,q3,q4,ad,q5,q6⟩
              . have hn3:zi9 a [o]=true:=by
                  rcases hn2 with q|q
                  . have:=fl q;omega
                  . exact q
                have e:(putC fr o.dst v).get a=fr.get a:=zzw h5 (by unfold zi9 at hn3;rw [jn,fj] at hn3;exact hn3.1);refine .inr ⟨ad,.inl (by rw [hg1,e];exact q2),q4,q5,.inl q1.symm,q3,fun _=>q1.symm⟩
              . subst q0
                have e:(putC fr o.dst v).get a=v:=by
                  rw [q1];refine rh v ?_ h5;have:=hdo.1;rw [q1] at this;exact zad.1 this
                refine .inr ⟨ad,by rw [hg1,e];exact q5,fun y hy=>?_,fun y hy=>?_,.inr ⟨q4,q6.symm⟩,fun h=>(by cases h),fun h=>by omega⟩
                . simp only [q2] at hy;cases hy
                . simp only [q3] at hy;cases hy
            . simp at h1
        |succ j=>exact zu3 h2 (by rw [hnt];exact h5) (by rw [hnt];exact hdo.2) j o' x w a (by simpa using hj) (by simpa using hx) ho (by simpa using hn)
      . simp at hc
    . simp at hc
theorem yl0 {o:Oper} {ρ:f7->Value} {s s1:CS} {v:Value} (hm:znc Γ o=true) (hc:cop P Γ call ρ o s=some (v,s1)):s1=s:=by
  unfold znc at hm;split at hm
  . rename_i args ts hop;unfold cop at hc;rw [hop] at hc;simp only at hc;unfold zfy at hc;simp only at hc;split at hc
    . rename_i x t _ hts;rw [hts] at hm;simp only at hm;unfold zmi at hc;split at hc
      . rename_i i hi;rw [hi] at hm;simp only at hm;split at hc
        . cases hc;rfl
        . cases hc;rfl
        . cases hc;rfl
        . cases hc;rfl
        . rename_i hd _;rw [hd] at hm;simp at hm
        . simp at hc
      . simp at hc
    . simp at hc
  . rename_i args ts hop;unfold cop at hc;rw [hop] at hc;exact zmz hc
  . rename_i args ts hop;unfold cop at hc;rw [hop] at hc;exact zmz hc
  . simp at hm
theorem znj {ops:List Oper}:∀ {l:List Oper} {fr fr':Fr} {s s':CS} {L:List Lg},drawC P Γ call ops l fr s=some (L,fr',s')->∀ (j:Nat) (o:Oper) (x:Lg),l[j]?=some o->L[j]?=some x->znc Γ o=true->x.rd=[]/\x.wr=[]/\x.lo=x.hi
  |[],fr,fr',s,s',L,hc,j,o,x,hj,_,_=>by simp at hj
  |o :: l,fr,fr',s,s',L,hc,j,o',x,hj,hx,hm=>by
    simp only [drawC] at hc;split at hc
    . rename_i fr1 t h1;split at hc
      . rename_i logs fr2 s2 h2;cases hc
        cases j with
        |zero =>
          simp only [gz,fe] at hj hx;subst hj;subst hx;unfold zcs at h1
          cases hw:zc8 ops fr o with
          |false =>
            rw [hw] at h1;simp only [cond_false,fe,fm] at h1;rw [<- h1.2];exact ⟨rfl,rfl,rfl⟩
          |true =>
            rw [hw,cond_true] at h1;split at h1
            . rename_i v s1 hcop;cases h1;rw [yl0 hm hcop];exact ⟨rfl,rfl,rfl⟩
            . simp at h1
        |succ j=>exact znj h2 j o' x (by simpa using hj) (by simpa using hx) hm
      . simp at hc
    . simp at hc
def FamOf (A:Nat->Prop) (β:Bx) (f:Nat):Option Nat->Prop
  |some b=>∃ u N',β b=some (.live f u N')
  |none=>A f
theorem z0g {S:TS} {s:CS} {fr:Fr} (hF:FrOk A β (zaa s.obj) N h fr) (hT:TRel GL A β S s) {a:Nat} {b:Option Nat} (k:adr1 S (h a) b) {ad:Addr} (e:IsAd (fr.get a) ad):FamOf A β ad.block b:=by
  have hv:=hF.slot a;generalize fr.get a=v at hv e;generalize h a=t at hv k
  cases b with
  |none =>
    cases t with
    |cp l=>cases hv with|cp q1 q2 q3=>(rcases e with e|⟨n,c,e⟩<;>cases e);exact q1
    |_=>exact k.elim
  |some c =>
    cases t with
    |ptr b' off N' =>
      obtain ⟨rfl,k2⟩:=k;obtain ⟨z,l,hS⟩:=TS.has_ok k2;obtain ⟨f,u,q1,q2⟩:=zkl hT hS hv;subst q1;rcases e with e|⟨n,c,e⟩<;>cases e;exact ⟨u,N',q2⟩
    |arr b' e' off len cap N' =>
      obtain ⟨rfl,k2⟩:=k;obtain ⟨z,l,hS⟩:=TS.has_ok k2;rcases zhw hT hS hv with ⟨f,u,q1,q2,_⟩|⟨q1,_⟩
      . subst q1;rcases e with e|⟨n,c,e⟩<;>cases e;exact ⟨u,N',q2⟩
      . subst q1
        rcases e with e|⟨n,c,e⟩<;>cases e
    |_=>exact k.elim
theorem ylt {S:TS} {s:CS} {fr:Fr} (hF:FrOk A β (zaa s.obj) N h fr) (hT:TRel GL A β S s) {a1 a2:Nat} {b1 b2:Option Nat} {w1 w2:Nat} {x y:Lg} (k1:adr1 S (h a1) b1) (k2:adr1 S (h a2) b2) (hw:w2<=1) (hne:(w1=0/\w2=0)\/ycp b1 b2=true) (z1:yae fr w1 a1 x) (z2:yae fr w2 a2 y):clash x y=false:=by
  obtain ⟨rx,wx,lo,hi⟩:=x;obtain ⟨ry,wy,lo',hi'⟩:=y;simp only [yae] at z1 z2;rcases z1 with ⟨p1,p2,p3⟩|⟨ad1,p1,p2,p3,p4,p5,p6⟩
  . exact zic p1 p2 p3
  rcases z2 with ⟨q1,q2,_⟩|⟨ad2,q1,q2,q3,q4,q5,q6⟩
  . exact zg7 q1 q2
  have g1:=z0g hF hT k1 p1;have g2:=z0g hF hT k2 q1;rcases hne with ⟨rfl,rfl⟩|hne
  . have e1:=p5 rfl;have e2:=q5 rfl;have e3:=p6 (by omega);subst e1;subst e2;subst e3;exact zgy (fun f hf=>by cases hf) (fun f _=>by simp) (fun f _=>by omega) (fun f hf=>by cases hf)
  . have hb:ad1.block≠ad2.block:=by
      intro hb
      cases b1 with
      |none =>
        cases b2 with
        |none=>simp [ycp] at hne
        |some b2 =>
          obtain ⟨u,M,g2⟩:=g2;exact (hT.dis ad2.block ⟨b2,.inl ⟨u,M,g2⟩⟩).2 (hb ▸ g1)
      |some b1 =>
        obtain ⟨u1,M1,g1⟩:=g1
        cases b2 with
        |none=>exact (hT.dis ad1.block ⟨b1,.inl ⟨u1,M1,g1⟩⟩).2 (hb ▸ g2)
        |some b2 =>
          obtain ⟨u2,M2,g2⟩:=g2;have:=hT.inj b1 b2 _ _ ad1.block g1 g2 rfl (by rw [hb];rfl);subst this;simp [ycp] at hne
    refine zgy (fun f hf=>⟨fun hf2=>?_,fun hf2=>?_⟩) (fun f hf hf2=>?_) (fun f hf=>?_) (fun f hf=>?_)
    . exact hb ((p3 f hf).symm.trans (q2 f hf2))
    . exact hb ((p3 f hf).symm.trans (q3 f hf2))
    . exact hb ((p2 f hf).symm.trans (q3 f hf2))
    . have:=q2 f hf;rcases p4 with p4|⟨p4,p7⟩<;>omega
    . have:=q3 f hf;rcases p4 with p4|⟨p4,p7⟩<;>omega
theorem TW.drawS (hE:zeb P Γ) {id:Nat} {ops:Array Oper} {Q:Exit->(Nat->T)->TS->Prop} (k:Nat) (bx:List (Nat×Option Nat)) (outsP:List T) (own:List Nat) (outs:List (T×TS)) {h1:Nat->T} {ob1 ob2:Prop} (hd:zfb N ops.toList=true) (hoS:zu4 Γ k bx ops.toList=true)
    (hp:runP P Γ GL ops.toList (ops.toList.take k) h S outsP=some (ob1,h1)) (hob1:ob1) (hr:runT P Γ GL own ops.toList (ops.toList.drop k) h1 S outs=some (ob2,h',S')) (hob2:ob2) (hbx:zyk bx h' S') (hq:Q .normal h' S'):TW P Γ GL N (.region id ops true) h S Q:=fun A β fr s hF hT=>by
  have hok:zjy ops.toList.length ops.toList=true:=by
    unfold zu4 at hoS;simp only [fj] at hoS;exact hoS.1
  have hsplit:ops.toList=ops.toList.take k++ops.toList.drop k:=(i9 k _).symm
  have hdd:zfb N (ops.toList.take k)=true/\zfb N (ops.toList.drop k)=true:=by
    unfold zfb at hd ⊢;rw [hsplit,List.all_append,fj] at hd;exact hd
  have I0:zqo GL ops.toList A β S s N [] h fr s:=by
    refine ⟨hF.nt,hF.le,hT,fun t=>⟨0,(hF.slot t).mono (fun f hf=>.inl hf) (fun _ _=>rfl) (mf _),fun j o _ _ _ m hm=>by simp at hm⟩,fun k x hx=>by simp at hx,fun k m x y _ hx=>by simp at hx,fun f hf=>(hT.dis f hf).1,hT.alt,?_,hT.le⟩;exact ⟨Can.refl _,fun _ h=>h,fun _ h=>.inl h,fun _ _=>rfl,fun _ h=>.inl h,fun _ h=>h⟩
  obtain ⟨M1,fr1,s1,d1,I1,m1⟩:=z6r hE hok I0 (fun j o hj=>by
    rw [je,i5];rw [mu] at hj;split at hj
    . exact hj
    . simp at hj) hdd.1 hp hob1
  rw [gg] at I1
  -- behind the first part all may lean on all
  let D:Nat:=2 ^ M1.length - 1
  have hDall:∀ m,m<M1.length->i6 D m=true:=fun m hm=>by
    show i6 (2 ^ M1.length - 1) m=true;rw [ml];exact zAa hm
  have hT1:TRel GL (SupL A M1 D) β S s1:=by
    refine I1.rel.more _ (fun f hf=>.inl hf) (fun f hf=>?_) (fun f hf ho=>?_)
    . rcases hf with q|⟨m,x,_,q2,_,q4⟩
      . exact I1.rel.alt f q
      . have:=(I1.log m x q2).2.2.1;omega
    . rcases hf with q|⟨m,x,_,q2,q3,q4⟩
      . exact (I1.rel.dis f ho).2 q
      . have:=(I1.log m x q2).1;have:=I1.own f ho;omega
  have hF1:FrOk (SupL A M1 D) β (zaa s1.obj) N h1 fr1:=⟨I1.nt,I1.le,fun t=>by
    obtain ⟨E,e1,_⟩:=I1.slot t
    exact e1.mono (fun f hf=>SupL.sub (fun m hm _=>hDall m hm) hf) (fun _ _=>rfl) (mf _)⟩
  have hS1:Stp A β s (SupL A M1 D) β s1:=by
    refine ⟨I1.calm.can,fun f hf=>.inl hf,fun f hf=>?_,fun f hf=>.inl hf,fun f hf _=>I1.calm.keep f hf,mf _,I1.calm.rd,fun x hx=>.inl (I1.calm.wr x hx)⟩;rcases hf with q|⟨m,x,_,q2,q3,_⟩
    . exact .inl q
    . have:=(I1.log m x q2).1;exact .inr (.inl (by omega))
  obtain ⟨M2,fr2,s2,d2,L2⟩:=zzh hE hdd.2 hF1 hT1 hr hob2;have hdraw:=zkc d1 d2;rw [<- hsplit] at hdraw;obtain ⟨f1,f2⟩:=zsv hdraw;have L2':=L2;obtain ⟨A2,β2,hF2,hT2,_⟩:=L2';refine W.draw hdraw ?_ ⟨h',S',qe (h':=h) (fr':=fr) hT.le hS1 L2,hq⟩;refine zz9 rfl (zob fun i j x y hij _ hx hy=>?_);simp only [gg] at hx hy;have hjl:j<ops.toList.length:=by rw [<- f1];exact (ge.1 hy).1
  have ho1:ops.toList[i]?=some (ops.toList[i]'(by omega)):=fk _;have ho2:ops.toList[j]?=some (ops.toList[j]'hjl):=fk _;by_cases hkj:k<=j
  . rcases z2x hoS hij hkj ho1 ho2 with q|q|q|q|q|q
    . exact .inl q
    . obtain ⟨a,b,c⟩:=(f2 i _ x ho1 hx).1 q;exact .inr (zic a b c)
    . obtain ⟨a,b⟩:=(f2 j _ y ho2 hy).2 q;exact .inr (zg7 a b)
    . obtain ⟨a,b,c⟩:=znj hdraw i _ x ho1 hx q;exact .inr (zic a b c)
    . obtain ⟨a,b,c⟩:=znj hdraw j _ y ho2 hy q;exact .inr (zg7 a b)
    . obtain ⟨w1,a1,b1,w2,a2,b2,g1,g2,g3,g4,g5,g6,g7,g8⟩:=yg5 q;have z1:=zu3 hdraw (by rw [hF.nt];exact hF.le) (by rw [hF.nt];exact hd) i _ x w1 a1 ho1 hx g1 g2;have z2:=zu3 hdraw (by rw [hF.nt];exact hF.le) (by rw [hF.nt];exact hd) j _ y w2 a2 ho2 hy g4 g5;exact .inr (ylt hF2 hT2 (z0h hbx g3) (z0h hbx g6) g7 g8 z1 z2)
  . have hjM:j<M1.length:=by rw [m1,ik];omega
    rw [gi (by omega)] at hx;rw [gi hjM] at hy;by_cases hbit:i6 (nth 0 (zdn ops.toList []) j) i=true
    . exact .inl hbit
    . right;obtain ⟨x1,x2,x3,x4,x5⟩:=I1.log i x hx;obtain ⟨y1,y2,y3,y4,y5⟩:=I1.log j y hy;obtain ⟨rx,wx,lo,hi⟩:=x;obtain ⟨ry,wy,lo',hi'⟩:=y;simp only at x1 x2 x3 x4 x5 y1 y2 y3 y4 y5;subst x4;subst y4;refine zgy (fun f hf=>by simp at hf) (fun f _=>by simp) (fun f hf=>?_) (fun f hf=>by simp at hf);obtain ⟨g1,g2⟩:=y5 f hf;rcases g2 with (g2|⟨m,z,g3,g4,g5,g6⟩)|g2
      . have:=I1.base f g2;omega
      . by_cases hmi:m=i
        . subst hmi;exact absurd g3 hbit
        . by_cases hlt:m<i
          . have:=I1.apart m i z _ hlt g4 hx;simp only at this;omega
          . have:=I1.apart i m _ z (by omega) hx g4;simp only at this;omega
      . have:=I1.own f g2;omega
end
section
variable {GL:List (Nat×List Value)} {A A' A2:Nat->Prop} {β β' β2:Bx} {S S' S2:TS} {s s' s2:CS} {P:gn} {Γ:Env} {N:Nat} {h h' h2:Nat->T} {Q R:Exit->(Nat->T)->TS->Prop}
theorem z4i (hE:zeb P Γ) {own:List Nat} {ops:List Oper} {N:Nat}:∀ {l:List Oper} {h h':Nat->T} {S S':TS} {outs:List (T×TS)} {ob:Prop} {A:Nat->Prop} {β:Bx} {fr:Fr} {s:CS},zfb N l=true->FrOk A β (zaa s.obj) N h fr->TRel GL A β S s->runT P Γ GL own ops l h S outs=some (ob,h',S')->ob ->
    ∃ M fr' s',drawC P Γ (zej P Γ) ops l fr s=some (M,fr',s')/\Left GL A β s N fr' s' h' S'/\∀ x,x∈M->s.n<=x.lo/\∀ f,f∈x.wr->Own β f\/s.n<=f
  |[],h,h',S,S',outs,ob,A,β,fr,s,hd,hF,hT,hr,hob=>by
    simp only [runT,fe,fm] at hr;obtain ⟨rfl,rfl,rfl⟩:=hr;exact ⟨[],fr,s,rfl,⟨A,β,hF,hT,Stp.refl⟩,fun x hx=>by simp at hx⟩
  |o :: l,h,h',S,S',outs,ob,A,β,fr,s,hd,hF,hT,hr,hob=>by
    have hd':zfb N l=true/\∀ t,o.dst=some t->t<N:=by
      unfold zfb at hd ⊢;rw [jn,fj] at hd;refine ⟨hd.2,fun t ht=>?_⟩;have:=hd.1;rw [ht] at this;exact zad.1 this
    have hTi:=hT.inner
    have go:∀ {t:T} {S1:TS} {r:Option (Value×CS)} {l':List (T×TS)} {ob':Prop},Ok GL A β s.inner r t S1->(cop P Γ (zej P Γ) (zg6 fr) o s.inner=r)->zc8 ops fr o=true->runT P Γ GL own ops l (putT h o.dst t) S1 l'=some (ob',h',S')->ob'->∃ M fr' s',drawC P Γ (zej P Γ) ops (o :: l) fr s=some (M,fr',s')/\Left GL A β s N fr' s' h' S'/\∀ x,x∈M->s.n<=x.lo/\∀ f,f∈x.wr->Own β f\/s.n<=f:=by
      rintro t S1 r l' ob' ⟨v,s1,A1,β1,rfl,k1,k2,k3⟩ hc hw hrun hob';have hF1:FrOk A1 β1 (zaa s1.obj) N h fr:=hF.mono k3.sub (Stp.old (s:=s.inner) hTi k3) k3.bx;have hS:Stp A β s A1 β1 (s.outer s1):=k3.outer hT.inv;obtain ⟨M,fr',s',e1,e2,e3⟩:=z4i hE hd'.1 (s:=s.outer s1) (hF1.put hd'.2 k2) (k1.outer (jv hT.le k3.can.n)) hrun hob';refine ⟨⟨s1.rd,s1.wr,s.n,s1.n⟩ :: M,fr',s',?_,qe (h':=h) (fr':=fr) hT.le hS e2,fun x hx=>?_⟩;rotate_left
      . rcases kj.1 hx with rfl|hx
        . refine ⟨fp _,fun f hf=>?_⟩;rcases k3.wr f hf with q|q
          . exact absurd q (by simp [CS.inner])
          . exact .inl q.2
        . refine ⟨jv hS.can.n (e3 x hx).1,fun f hf=>?_⟩;rcases (e3 x hx).2 f hf with q|q
          . rcases hS.own f q with r|r
            . exact .inl r
            . exact .inr r
          . exact .inr (jv hS.can.n q)
      rw [drawC]
      have:zcs P Γ (zej P Γ) ops o fr s.inner=some (putC fr o.dst v,s1):=by
        unfold zcs;rw [hw,cond_true,hc]
      rw [this];simp only;rw [e1]
    unfold runT at hr;split at hr
    . simp at hr
    . rename_i hg;have hw:=ziv hF hg;have hS:Stp A β s A β (s.outer s.inner):=Stp.outer hT.inv Stp.refl;obtain ⟨M,fr',s',e1,e2,e3⟩:=z4i hE hd'.1 (s:=s.outer s.inner) (hF.put hd'.2 VT.undf) (hTi.outer hT.le) hr hob;refine ⟨⟨[],[],s.n,s.n⟩ :: M,fr',s',?_,qe (h':=h) (fr':=fr) hT.le hS e2,fun x hx=>?_⟩;rotate_left
      . rcases kj.1 hx with rfl|hx
        . exact ⟨fp _,fun f hf=>by simp at hf⟩
        . exact e3 x hx
      rw [drawC]
      have:zcs P Γ (zej P Γ) ops o fr s.inner=some (putC fr o.dst undef,s.inner):=by
        unfold zcs;rw [hw,cond_false]
      rw [this];simp only;rw [e1];rfl
    . rename_i hg;have hw:=ziv hF hg;split at hr
      . rename_i f args tys ho;split at hr
        . rename_i r outs';split at hr
          . rename_i p hp;unfold z0a at hp;split at hp
            . rename_i k first cap hf
              simp only [fe] at hp;subst hp
              cases hrun:runT P Γ GL own ops l (putT h o.dst r.1) r.2 outs' with
              |none=>rw [hrun] at hr;simp [andT] at hr
              |some q =>
                obtain ⟨q1,q2,q3⟩:=q;rw [hrun] at hr;simp only [andT,fe,fm] at hr;obtain ⟨rfl,rfl,rfl⟩:=hr;have hfv:=hF.eval hT f;rw [hf] at hfv;generalize e1:zg6 fr f=vf at hfv
                cases hfv with
                |fn h1 h2 =>
                  rename_i va vc;have hargs:=zvf (hF.eval hT) args.toList;have hcall:=hob.1 A β s.inner _ hTi ((h1.append hargs).append h2);refine go hcall ?_ hw hrun hob.2;unfold cop;simp only [ho,e1];unfold zoh;rfl
            . simp at hp
          . simp at hr
        . simp at hr
      . split at hr
        . rename_i t S1 hst;exact go (zyw hE hTi (hF.eval hT) hst) rfl hw hr hob
        . simp at hr
def isCp:T->Prop
  |.cp _=>True
  |_=>False
def z5j (h:Nat->T):List Nat->Prop
  |[]=>True
  |a :: l=>isCp (h a)/\z5j h l
theorem zu7 {h:Nat->T} {a:Nat}:∀ {l:List Nat},z5j h l->a∈l->∃ m,h a=.cp m
  |[],_,ha=>by simp at ha
  |b :: l,k,ha=>by
    rcases kj.1 ha with rfl|ha
    . have:=k.1;unfold isCp at this;split at this
      . next m e=>exact ⟨m,e⟩
      . exact this.elim
    . exact zu7 k.2 ha
noncomputable def zuz (cs:List Nat) (a:Nat) (all:List Oper):List Oper->Bool
  |[]=>false
  |o :: l=>match o.dst with
    |some d=>bif fy d a then (match o.op with|.fieldAddr _ (.tmp b) _=>cs.any (fy b) && (zi9 b all && zi9 a l)|_=>false)
      else (match lsOf o with|some (_,c)=>!(fy c a)|none=>true) && zuz cs a all l
    |none=>(match lsOf o with|some (_,c)=>!(fy c a)|none=>true) && zuz cs a all l
noncomputable def z8f (cs:List Nat) (all:List Oper) (o:Oper):Bool:=match lsOf o with
  |some (0,a)=>(cs.any (fy a) && zi9 a all) || zuz cs a all all
  |_=>false
noncomputable def z7d (Γ:Env) (cs:List Nat) (all:List Oper) (x y:Bool×Oper×Option (Nat×Option Nat)):Bool:=y.1 && !(zi1 x.2.1.op || (zi8 y.2.1.op || (znc Γ x.2.1 || (znc Γ y.2.1 || (z8f cs all x.2.1 || z8f cs all y.2.1)))))
noncomputable def zq7 (Γ:Env) (k:Nat) (cs:List Nat) (ops:List Oper):Bool:=zjy ops.length ops && zgo (z7d Γ cs ops) [] (tagS [] k ops) (zdn ops [])
theorem ybg {a:Nat} {all:List Oper} {i:Nat} {o:Oper} (h:zi9 a all=true) (ho:all[i]?=some o):zlc 0 a o (all.drop (i+1))=true:=by
  unfold zlc;unfold zi9 at h ⊢;rw [ib] at h;rw [fj,l7];refine ⟨ib.2 fun x hx=>h x (m5 hx),.inr ?_⟩;rw [jn,List.all_nil,Bool.and_true];exact h o (jl ho)
def FaAt (a b:Nat) (all:List Oper):Prop:=∃ (i0:Nat) (o0:Oper) (ty:TypeId) (k:Nat),all[i0]?=some o0/\o0.op=.fieldAddr ty (.tmp b) k/\o0.dst=some a/\zi9 a (all.drop (i0+1))=true
theorem yfb {cs:List Nat} {a:Nat} (h:cs.any (fy a)=true):a∈cs:=by
  obtain ⟨b,hb,hab⟩:=List.any_eq_true.1 h;have:a=b:=fl hab;subst this;exact hb
theorem zx0 {cs:List Nat} {a:Nat} {all:List Oper}:∀ {l:List Oper},zuz cs a all l=true->∃ b i0 o0 ty k,b∈cs/\zi9 b all=true/\l[i0]?=some o0/\o0.op=.fieldAddr ty (.tmp b) k/\o0.dst=some a/\zi9 a (l.drop (i0+1))=true/\∀ i o w,l[i]?=some o->lsOf o=some (w,a)->i0<i
  |[],h=>by simp [zuz] at h
  |o :: l,h=>by
    have next:(match lsOf o with|some (_,c)=>!(fy c a)|none=>true)=true->zuz cs a all l=true->∃ b i0 o0 ty k,b∈cs/\zi9 b all=true/\(o :: l)[i0]?=some o0/\o0.op=.fieldAddr ty (.tmp b) k/\o0.dst=some a/\zi9 a ((o :: l).drop (i0+1))=true/\∀ i o' w,(o :: l)[i]?=some o'->lsOf o'=some (w,a)->i0<i:=by
      intro h1 h2;obtain ⟨b,i0,o0,ty,k,q1,q2,q3,q4,q5,q6,q7⟩:=zx0 h2;refine ⟨b,i0+1,o0,ty,k,q1,q2,by simpa using q3,q4,q5,by simpa using q6,fun i o' w hi hw=>?_⟩
      cases i with
      |zero =>
        simp only [gz,fe] at hi;subst hi;rw [hw] at h1
        simp at h1
      |succ i=>have:=q7 i o' w (by simpa using hi) hw;omega
    rw [zuz] at h
    cases hd:o.dst with
    |none =>
      rw [hd] at h;simp only [fj] at h
      exact next h.1 h.2
    |some d =>
      rw [hd] at h;simp only at h
      cases hb:fy d a with
      |false =>
        rw [hb,cond_false,fj] at h
        exact next h.1 h.2
      |true =>
        rw [hb,cond_true] at h;have:=fl hb;subst this;split at h
        . next ty b k e =>
          simp only [fj] at h;refine ⟨b,0,o,ty,k,yfb h.1,h.2.1,rfl,e,hd,by simpa using h.2.2,fun i o' w hi hw=>?_⟩
          cases i with
          |zero =>
            simp only [gz,fe] at hi;subst hi;unfold lsOf at hw;rw [e] at hw
            simp at hw
          |succ i=>omega
        . simp at h
theorem zx8 {cs:List Nat} {all:List Oper} {o:Oper} (h:z8f cs all o=true) {i:Nat} (ho:all[i]?=some o):∃ a b,lsOf o=some (0,a)/\b∈cs/\zi9 b all=true/\zlc 0 a o (all.drop (i+1))=true/\(a=b\/FaAt a b all):=by
  unfold z8f at h;split at h
  . next a e =>
    rw [l7,fj] at h;rcases h with h|h
    . exact ⟨a,a,e,yfb h.1,h.2,ybg h.2 ho,.inl rfl⟩
    . obtain ⟨b,i0,o0,ty,k,q1,q2,q3,q4,q5,q6,q7⟩:=zx0 h;have hlt:=q7 i o 0 ho e;refine ⟨a,b,e,q1,q2,?_,.inr ⟨i0,o0,ty,k,q3,q4,q5,q6⟩⟩;unfold zlc;unfold zi9 at q6 ⊢;rw [ib] at q6;rw [fj,l7];refine ⟨ib.2 fun x hx=>q6 x ?_,.inr ?_⟩
      . have:all.drop (i+1)=(all.drop (i0+1)).drop (i - i0):=by rw [List.drop_drop];congr 1;omega
        rw [this] at hx;exact m5 hx
      . rw [jn,List.all_nil,Bool.and_true];refine q6 o ?_;have:(all.drop (i0+1))[i - (i0+1)]?=some o:=by rw [lc,<- ho];congr 1;omega
        exact jl this
  . simp at h
theorem z47 {ops:List Oper} {a b:Nat}:∀ {l:List Oper} {fr fr':Fr} {s s':CS} {L:List Lg} {call:zed},drawC P Γ call ops l fr s=some (L,fr',s')->fr.nt<=512->zfb fr.nt l=true->zi9 b l=true->FaAt a b l->∀ {ad:Addr},IsAd (fr'.get a) ad->∃ ad0,IsAd (fr.get b) ad0/\ad0.block=ad.block
  |[],fr,fr',s,s',L,call,hc,_,_,_,⟨i0,o0,ty,k,q,_⟩,_,_=>by simp at q
  |o :: l,fr,fr',s,s',L,call,hc,h5,hdo,hn,⟨i0,o0,ty,k,q3,q4,q5,q6⟩,ad,had=>by
    simp only [drawC] at hc;have hn':=hn;unfold zi9 at hn;rw [jn,fj] at hn;unfold zfb at hdo;rw [jn,fj] at hdo;split at hc
    . rename_i fr1 t h1;split at hc
      . rename_i logs fr2 s2 h2;cases hc
        have hfr:∃ v,fr1=putC fr o.dst v:=by
          unfold zcs at h1
          cases hw:zc8 ops fr o with
          |false =>
            rw [hw] at h1;simp only [cond_false,fe,fm] at h1;exact ⟨_,h1.1.symm⟩
          |true =>
            rw [hw,cond_true] at h1;split at h1
            . cases h1;exact ⟨_,rfl⟩
            . simp at h1
        have hnt:fr1.nt=fr.nt:=by obtain ⟨v,rfl⟩:=hfr;exact ztx _ _ _
        cases i0 with
        |succ i0 =>
          obtain ⟨ad0,k1,k2⟩:=z47 h2 (by rw [hnt];exact h5) (by rw [hnt];exact hdo.2) hn.2 ⟨i0,o0,ty,k,by simpa using q3,q4,q5,by simpa using q6⟩ had;obtain ⟨v,rfl⟩:=hfr;rw [zzw h5 hn.1] at k1;exact ⟨ad0,k1,k2⟩
        |zero =>
          simp only [gz,fe] at q3;subst q3;rw [zqh h2 (by rw [hnt];exact h5) (show zi9 a l=true by simpa using q6)] at had;unfold zcs at h1;rw [q5] at h1 hdo;have hlt:a<fr.nt:=zad.1 hdo.1
          cases hw:zc8 ops fr o with
          |false =>
            rw [hw] at h1;simp only [cond_false,fe,fm] at h1;rw [<- h1.1] at had;change IsAd ((fr.put a undef).get a) ad at had;rw [rh _ hlt h5] at had
            rcases had with e|⟨_,_,e⟩<;>cases e
          |true =>
            rw [hw,cond_true] at h1;split at h1
            . rename_i v t2 hcop;cases h1;change IsAd ((fr.put a v).get a) ad at had;rw [rh _ hlt h5] at had;unfold cop at hcop;rw [q4] at hcop;simp only at hcop;change zd6 Γ _ ty k (fr.get b)=_ at hcop;unfold zd6 at hcop;split at hcop
              . rename_i a0 hv0;split at hcop
                . split at hcop
                  . split at hcop
                    . rename_i off size _
                      cases hz:fy size 0 with
                      |true=>rw [hz] at hcop;simp at hcop
                      |false =>
                        rw [hz] at hcop;simp only [cond_false,fe,fm] at hcop;refine ⟨a0,.inl hv0,?_⟩;rw [<- hcop.1] at had;rcases had with e|⟨_,_,e⟩
                        . cases e;rfl
                        . cases e
                    . simp at hcop
                  . simp at hcop
                . simp at hcop
              . simp at hcop
            . simp at h1
      . simp at hc
    . simp at hc
theorem z2y {Γ:Env} {k:Nat} {cs:List Nat} {ops:List Oper} (hd:zq7 Γ k cs ops=true) {i j:Nat} {x y:Oper} (hij:i<j) (hkj:k<=j) (hx:ops[i]?=some x) (hy:ops[j]?=some y):i6 (nth 0 (zdn ops []) j) i=true\/zi1 x.op=true\/zi8 y.op=true\/znc Γ x=true\/znc Γ y=true\/(∃ a b,lsOf x=some (0,a)/\b∈cs/\zi9 b ops=true/\zlc 0 a x (ops.drop (i+1))=true/\(a=b\/FaAt a b ops))\/(∃ a b,lsOf y=some (0,a)/\b∈cs/\zi9 b ops=true/\zlc 0 a y (ops.drop (j+1))=true/\(a=b\/FaAt a b ops)):=by
  unfold zq7 at hd;simp only [fj] at hd;rcases zf7 hd.2 i j _ _ hij (ir _) (by simpa using zns hx) (by simpa using zns hy) with q|q
  . exact .inl q
  . unfold z7d at q;rw [zAa hkj] at q;simp only [jy,pn,l7] at q;rcases q with q|q|q|q|q|q
    . exact .inr (.inl q)
    . exact .inr (.inr (.inl q))
    . exact .inr (.inr (.inr (.inl q)))
    . exact .inr (.inr (.inr (.inr (.inl q))))
    . exact .inr (.inr (.inr (.inr (.inr (.inl (zx8 q hx))))))
    . exact .inr (.inr (.inr (.inr (.inr (.inr (zx8 q hy))))))
theorem TW.drawC (hE:zeb P Γ) {id:Nat} {ops:Array Oper} {Q:Exit->(Nat->T)->TS->Prop} (k:Nat) (cs:List Nat) (outsP:List T) (own:List Nat) (outs:List (T×TS)) {h1:Nat->T} {ob1 ob2:Prop} (hd:zfb N ops.toList=true) (hoS:zq7 Γ k cs ops.toList=true)
    (hp:runP P Γ GL ops.toList (ops.toList.take k) h S outsP=some (ob1,h1)) (hob1:ob1) (hr:runT P Γ GL own ops.toList (ops.toList.drop k) h1 S outs=some (ob2,h',S')) (hob2:ob2) (hcs:z5j h cs) (hq:Q .normal h' S'):TW P Γ GL N (.region id ops true) h S Q:=fun A β fr s hF hT=>by
  have hok:zjy ops.toList.length ops.toList=true:=by
    unfold zq7 at hoS;simp only [fj] at hoS;exact hoS.1
  have hsplit:ops.toList=ops.toList.take k++ops.toList.drop k:=(i9 k _).symm
  have hdd:zfb N (ops.toList.take k)=true/\zfb N (ops.toList.drop k)=true:=by
    unfold zfb at hd ⊢;rw [hsplit,List.all_append,fj] at hd;exact hd
  have I0:zqo GL ops.toList A β S s N [] h fr s:=by
    refine ⟨hF.nt,hF.le,hT,fun t=>⟨0,(hF.slot t).mono (fun f hf=>.inl hf) (fun _ _=>rfl) (mf _),fun j o _ _ _ m hm=>by simp at hm⟩,fun k x hx=>by simp at hx,fun k m x y _ hx=>by simp at hx,fun f hf=>(hT.dis f hf).1,hT.alt,?_,hT.le⟩;exact ⟨Can.refl _,fun _ h=>h,fun _ h=>.inl h,fun _ _=>rfl,fun _ h=>.inl h,fun _ h=>h⟩
  obtain ⟨M1,fr1,s1,d1,I1,m1⟩:=z6r hE hok I0 (fun j o hj=>by
    rw [je,i5];rw [mu] at hj;split at hj
    . exact hj
    . simp at hj) hdd.1 hp hob1
  rw [gg] at I1
  -- behind the first part all may lean on all
  let D:Nat:=2 ^ M1.length - 1
  have hDall:∀ m,m<M1.length->i6 D m=true:=fun m hm=>by
    show i6 (2 ^ M1.length - 1) m=true;rw [ml];exact zAa hm
  have hT1:TRel GL (SupL A M1 D) β S s1:=by
    refine I1.rel.more _ (fun f hf=>.inl hf) (fun f hf=>?_) (fun f hf ho=>?_)
    . rcases hf with q|⟨m,x,_,q2,_,q4⟩
      . exact I1.rel.alt f q
      . have:=(I1.log m x q2).2.2.1;omega
    . rcases hf with q|⟨m,x,_,q2,q3,q4⟩
      . exact (I1.rel.dis f ho).2 q
      . have:=(I1.log m x q2).1;have:=I1.own f ho;omega
  have hF1:FrOk (SupL A M1 D) β (zaa s1.obj) N h1 fr1:=⟨I1.nt,I1.le,fun t=>by
    obtain ⟨E,e1,_⟩:=I1.slot t
    exact e1.mono (fun f hf=>SupL.sub (fun m hm _=>hDall m hm) hf) (fun _ _=>rfl) (mf _)⟩
  have hS1:Stp A β s (SupL A M1 D) β s1:=by
    refine ⟨I1.calm.can,fun f hf=>.inl hf,fun f hf=>?_,fun f hf=>.inl hf,fun f hf _=>I1.calm.keep f hf,mf _,I1.calm.rd,fun x hx=>.inl (I1.calm.wr x hx)⟩;rcases hf with q|⟨m,x,_,q2,q3,_⟩
    . exact .inl q
    . have:=(I1.log m x q2).1;exact .inr (.inl (by omega))
  obtain ⟨M2,fr2,s2,d2,L2,W2⟩:=z4i hE hdd.2 hF1 hT1 hr hob2;have hdraw:=zkc d1 d2;rw [<- hsplit] at hdraw;obtain ⟨f1,f2⟩:=zsv hdraw;have L2':=L2;obtain ⟨A2,β2,hF2,hT2,_⟩:=L2';refine W.draw hdraw ?_ ⟨h',S',qe (h':=h) (fr':=fr) hT.le hS1 L2,hq⟩;refine zz9 rfl (zob fun i j x y hij _ hx hy=>?_);simp only [gg] at hx hy;have hjl:j<ops.toList.length:=by rw [<- f1];exact (ge.1 hy).1
  have ho1:ops.toList[i]?=some (ops.toList[i]'(by omega)):=fk _;have ho2:ops.toList[j]?=some (ops.toList[j]'hjl):=fk _;by_cases hkj:k<=j
  . rcases z2y hoS hij hkj ho1 ho2 with q|q|q|q|q|⟨a1,b1,q1,q2,q3,q4,q5⟩|⟨a1,b1,q1,q2,q3,q4,q5⟩
    . exact .inl q
    . obtain ⟨a,b,c⟩:=(f2 i _ x ho1 hx).1 q;exact .inr (zic a b c)
    . obtain ⟨a,b⟩:=(f2 j _ y ho2 hy).2 q;exact .inr (zg7 a b)
    . obtain ⟨a,b,c⟩:=znj hdraw i _ x ho1 hx q;exact .inr (zic a b c)
    . obtain ⟨a,b,c⟩:=znj hdraw j _ y ho2 hy q;exact .inr (zg7 a b)
    . have z1:=zu3 hdraw (by rw [hF.nt];exact hF.le) (by rw [hF.nt];exact hd) i _ x 0 a1 ho1 hx q1 q4
      have hyM:y∈M2:=by
        have hm1:M1.length<=j:=by rw [m1,ik];omega
        rw [im hm1] at hy;exact jl hy
      have ga:∀ {ad:Addr},IsAd (fr2.get a1) ad->∃ ad0,IsAd (fr.get b1) ad0/\ad0.block=ad.block:=by
        intro ad had;rcases q5 with rfl|q5
        . rw [zqh hdraw (by rw [hF.nt];exact hF.le) q3] at had;exact ⟨ad,had,rfl⟩
        . exact z47 hdraw (by rw [hF.nt];exact hF.le) (by rw [hF.nt];exact hd) q3 q5 had
      obtain ⟨l,hl⟩:=zu7 hcs q2;obtain ⟨rx,wx,lo,hi⟩:=x;obtain ⟨ry,wy,lo',hi'⟩:=y;simp only [yae] at z1;rcases z1 with ⟨p1,p2,p3⟩|⟨ad1,p1,p2,p3,p4,p5,p6⟩
      . exact .inr (zic p1 p2 p3)
      . obtain ⟨ad0,g1,g2⟩:=ga p1
        have fa:A ad1.block:=by
          rw [<- g2];exact z0g (S:=S) (b:=none) hF hT (by rw [hl];trivial) g1
        have e5:=p5 trivial;have e6:=p6 (by omega);refine .inr (zgy (fun f hf=>by simp [e5] at hf) (fun f hf hw=>?_) (fun f _=>by omega) (fun f _=>by omega));rw [p2 f hf] at hw;rcases (W2 _ hyM).2 _ hw with r|r
        . exact (hT.dis _ r).2 fa
        . have:=hT.alt _ fa;have:=I1.calm.can.n;omega
    . have z1:=zu3 hdraw (by rw [hF.nt];exact hF.le) (by rw [hF.nt];exact hd) j _ y 0 a1 ho2 hy q1 q4
      have ga:∀ {ad:Addr},IsAd (fr2.get a1) ad->∃ ad0,IsAd (fr.get b1) ad0/\ad0.block=ad.block:=by
        intro ad had;rcases q5 with rfl|q5
        . rw [zqh hdraw (by rw [hF.nt];exact hF.le) q3] at had;exact ⟨ad,had,rfl⟩
        . exact z47 hdraw (by rw [hF.nt];exact hF.le) (by rw [hF.nt];exact hd) q3 q5 had
      obtain ⟨l,hl⟩:=zu7 hcs q2
      have xlo:s.n<=x.lo/\∀ f,f∈x.wr->Own β f\/s.n<=f:=by
        by_cases hi:i<M1.length
        . rw [gi hi] at hx;obtain ⟨x1,_,_,x4,_⟩:=I1.log i x hx;exact ⟨x1,fun f hf=>by rw [x4] at hf;simp at hf⟩
        . rw [im (by omega)] at hx;have w:=W2 _ (jl hx);have:=I1.calm.can.n;exact ⟨by omega,fun f hf=>(w.2 f hf).imp (fun r=>r) (fun r=>by omega)⟩
      obtain ⟨rx,wx,lo,hi⟩:=x;obtain ⟨ry,wy,lo',hi'⟩:=y;simp only [yae] at z1;rcases z1 with ⟨p1,p2,p3⟩|⟨ad1,p1,p2,p3,p4,p5,p6⟩
      . exact .inr (zg7 p1 p2)
      . obtain ⟨ad0,g1,g2⟩:=ga p1
        have fa:A ad1.block:=by
          rw [<- g2];exact z0g (S:=S) (b:=none) hF hT (by rw [hl];trivial) g1
        have e5:=p5 trivial;have:=hT.alt _ fa;simp only at xlo;refine .inr (zgy (fun f hf=>⟨fun hr=>?_,fun hw=>by simp [e5] at hw⟩) (fun f hf hw=>by simp [e5] at hw) (fun f hr=>.inl ?_) (fun f hw=>by simp [e5] at hw))
        . rw [p2 f hr] at hf;rcases xlo.2 _ hf with r|r
          . exact (hT.dis _ r).2 fa
          . omega
        . rw [p2 f hr];omega
  . have hjM:j<M1.length:=by rw [m1,ik];omega
    rw [gi (by omega)] at hx;rw [gi hjM] at hy;by_cases hbit:i6 (nth 0 (zdn ops.toList []) j) i=true
    . exact .inl hbit
    . right;obtain ⟨x1,x2,x3,x4,x5⟩:=I1.log i x hx;obtain ⟨y1,y2,y3,y4,y5⟩:=I1.log j y hy;obtain ⟨rx,wx,lo,hi⟩:=x;obtain ⟨ry,wy,lo',hi'⟩:=y;simp only at x1 x2 x3 x4 x5 y1 y2 y3 y4 y5;subst x4;subst y4;refine zgy (fun f hf=>by simp at hf) (fun f _=>by simp) (fun f hf=>?_) (fun f hf=>by simp at hf);obtain ⟨g1,g2⟩:=y5 f hf;rcases g2 with (g2|⟨m,z,g3,g4,g5,g6⟩)|g2
      . have:=I1.base f g2;omega
      . by_cases hmi:m=i
        . subst hmi;exact absurd g3 hbit
        . by_cases hlt:m<i
          . have:=I1.apart m i z _ hlt g4 hx;simp only at this;omega
          . have:=I1.apart i m _ z (by omega) hx g4;simp only at this;omega
      . have:=I1.own f g2;omega
end
theorem tB0 (ax:Axs):type_of% (fd (fd (fd (fd (bt30 ax) (fd (bt56 ax) (bt59 ax))) (fd (fd (bt84 ax) (el28 ax)) (fd (el48 ax) (el75 ax)))) (fd (fd (el88 ax) (fd (ykb ax) (yka ax))) (fd (fd (yj9 ax) (yj8 ax)) (fd (yj7 ax) (yj6 ax))))) (fd (fd (fd (yj5 ax) (fd (yj4 ax) (yj3 ax))) (fd (fd (yj2 ax) (yj1 ax)) (fd (yj0 ax) (yjz ax)))) (fd (fd (yjy ax) (fd (yjx ax) (yjw ax))) (fd (fd (yjv ax) (yju ax)) (fd (yjt ax) (yjs ax)))))):=fd (fd (fd (fd (bt30 ax) (fd (bt56 ax) (bt59 ax))) (fd (fd (bt84 ax) (el28 ax)) (fd (el48 ax) (el75 ax)))) (fd (fd (el88 ax) (fd (ykb ax) (yka ax))) (fd (fd (yj9 ax) (yj8 ax)) (fd (yj7 ax) (yj6 ax))))) (fd (fd (fd (yj5 ax) (fd (yj4 ax) (yj3 ax))) (fd (fd (yj2 ax) (yj1 ax)) (fd (yj0 ax) (yjz ax)))) (fd (fd (yjy ax) (fd (yjx ax) (yjw ax))) (fd (fd (yjv ax) (yju ax)) (fd (yjt ax) (yjs ax)))))
theorem tB1 (ax:Axs):type_of% (fd (fd (fd (fd (yjr ax) (fd (yjp ax) (yjo ax))) (fd (fd (yjn ax) (yjm ax)) (fd (yjl ax) (yjk ax)))) (fd (fd (yjj ax) (fd (yji ax) (yir ax))) (fd (fd (yiq ax) (yip ax)) (fd (yio ax) (yin ax))))) (fd (fd (fd (yim ax) (fd (yil ax) (yik ax))) (fd (fd (sr28 ax) (sr48 ax)) (fd (sr75 ax) (sr88 ax)))) (fd (fd (ym7 ax) (fd (ym6 ax) (ym5 ax))) (fd (fd (ti22 ax) (ti23 ax)) (fd (ti24 ax) (ti26 ax)))))):=fd (fd (fd (fd (yjr ax) (fd (yjp ax) (yjo ax))) (fd (fd (yjn ax) (yjm ax)) (fd (yjl ax) (yjk ax)))) (fd (fd (yjj ax) (fd (yji ax) (yir ax))) (fd (fd (yiq ax) (yip ax)) (fd (yio ax) (yin ax))))) (fd (fd (fd (yim ax) (fd (yil ax) (yik ax))) (fd (fd (sr28 ax) (sr48 ax)) (fd (sr75 ax) (sr88 ax)))) (fd (fd (ym7 ax) (fd (ym6 ax) (ym5 ax))) (fd (fd (ti22 ax) (ti23 ax)) (fd (ti24 ax) (ti26 ax)))))
theorem tB2 (ax:Axs):type_of% (fd (fd (fd (fd (ti28 ax) (ti3 ax)) (fd (ti30 ax) (fd (ti4 ax) (ti40 ax)))) (fd (fd (ti48 ax) (ti5 ax)) (fd (ti56 ax) (fd (ti57 ax) (ti59 ax))))) (fd (fd (fd (ti74 ax) (ti75 ax)) (fd (ti84 ax) (fd (ti86 ax) (ti87 ax)))) (fd (fd (ti88 ax) (fd (ti9 ax) (ti93 ax))) (fd (ti95 ax) (fd (ti98 ax) (tz43 ax)))))):=fd (fd (fd (fd (ti28 ax) (ti3 ax)) (fd (ti30 ax) (fd (ti4 ax) (ti40 ax)))) (fd (fd (ti48 ax) (ti5 ax)) (fd (ti56 ax) (fd (ti57 ax) (ti59 ax))))) (fd (fd (fd (ti74 ax) (ti75 ax)) (fd (ti84 ax) (fd (ti86 ax) (ti87 ax)))) (fd (fd (ti88 ax) (fd (ti9 ax) (ti93 ax))) (fd (ti95 ax) (fd (ti98 ax) (tz43 ax)))))
def KP (h h2:Nat->T):List Nat->Prop
  |[]=>True
  |[k]=>h2 k=h k
  |k :: j :: l=>h2 k=h k/\KP h h2 (j :: l)
theorem KP.refl (h:Nat->T):∀ K,KP h h K
  |[]=>trivial
  |[_]=>rfl
  |_ :: j :: l=>⟨rfl,KP.refl h (j :: l)⟩
theorem f2 {A B:Prop} (a:A) (b:B):A/\B:=⟨a,b⟩
theorem f3 {A B C:Prop} (a:A) (b:B) (c:C):A/\B/\C:=⟨a,b,c⟩
theorem isp {α:Type} {p:Prop} [Decidable p] {a b:Option α} {v:α} (h:(if p then a else b)=some v):(p/\a=some v)\/(¬ p/\b=some v):=by
  by_cases c:p
  . rw [zAc c] at h;exact .inl ⟨c,h⟩
  . rw [zAd c] at h;exact .inr ⟨c,h⟩
theorem isb {α:Type} {t:Bool} {a b:Option α} {v:α} (h:(if t=true then a else b)=some v):(t=true/\a=some v)\/(t=false/\b=some v):=by
  cases t with
  |true=>exact .inl ⟨rfl,h⟩
  |false=>exact .inr ⟨rfl,h⟩
theorem isg {α:Type} {p:Prop} [Decidable p] {a:Option α} {v:α} (h:(if p then a else none)=some v):p/\a=some v:=by
  by_cases c:p
  . rw [zAc c] at h;exact ⟨c,h⟩
  . rw [zAd c] at h;cases h
theorem sinl {α β:Type} {r:α} {v:α} {g:β->Option α} (h:ks (fun r=>some r) g (.inl r)=some v):r=v:=Option.some.inj h
theorem sinm {α β δ:Type} {r:α} {v:α ⊕ δ} {g:β->Option (α ⊕ δ)} (h:ks (fun r=>some (.inl r)) g (.inl r)=some v):.inl r=v:=Option.some.inj h
theorem sinr {α β γ:Type} {s:β} {f:α->γ} {g:β->γ} {v:γ} (h:ks f g (.inr s)=v):g s=v:=h
def pS (S:TS):List T->List (T×TS)
  |[]=>[]
  |v :: l=>(v,S) :: pS S l
theorem yns {S:TS}:pS S []=[]:=f6 rfl rfl
theorem ylo {S:TS} {v:T} {l:List T}:pS S (v :: l)=(v,S) :: pS S l:=f6 rfl rfl
section
variable {ax:Axs} {N:Nat} {h h':Nat->T} {S S':TS} {Q:Exit->(Nat->T)->TS->Prop} {F:Prop} {C:(Nat->T)->Prop} {R:(Nat->T)->Prop} {bs bs2:List Box}
def Fin (ax:Axs) (l:List q8) (vs:List T):Exit->(Nat->T)->TS->Prop:=fun e h S=>(e=.normal\/e=.ret)/\resT (EE ax) S h l=some vs
theorem rk {id:Nat} {ops:Array Oper} (K own:List Nat) (f:F) (hq:∀ h2,C h2->R h2) (hd:zfb N ops.toList=true:=by kernel_rfl) (hr:F->runT Try.prog (EE ax) [] own ops.toList ops.toList h S []=some (True,h',stL bs):=by intro q;simp (maxSteps:=900000) (disch:=first|omega|decide | (simp only [lzA,fw,iq];done)|fail) only [b0,b1,b2,b3,b4,b5,b6,b7,b8,fw,iz,ft,jg,reduceIte,reduceCtorEq,tB0,tB1,tB2,zf2,zf1,zd3,zkt,zku,zkv,zkw,ff,aggO,zb4,zbh,zf5,zam,zc7,zao,zai,zar,zb7,gb,ii,iy,za9,zcr,zaz,zbs,za8,zju,zco,zcn,zbr,zd2,zgj,zcq,zcp,zea,zd9,zdp,zb1,zdo,zdr,zb3,zdq,q,eqA,eqB,eqsA,eqsB];with_reducible rfl) (hC:F->∀ h2,KP h' h2 K->C h2:=by intro q h2 k;simp only [KP,zbb,ft,reduceIte,iv,il,q] at k;first|exact k|exact trivial) (hR:∀ h2,R h2->Q .normal h2 (stL bs):=by intro h2 k;first | (simp only [onT,onTB];exact k)|exact k):TW Try.prog (EE ax) [] N (.region id ops false) h S Q :=
  nm (zfg ax) own [] hd (hr f) trivial (hR _ (hq _ (hC f _ (KP.refl _ K))))
theorem rkc {id:Nat} {ops:Array Oper} {ob:Prop} (K own:List Nat) (outs:List (T×TS)) (f:F) (ho:ob) (hq:∀ h2,C h2->R h2) (hd:zfb N ops.toList=true:=by kernel_rfl) (hr:F->runT Try.prog (EE ax) [] own ops.toList ops.toList h S outs=some (ob,h',stL bs):=by intro q;simp (maxSteps:=900000) (disch:=first|omega|decide | (simp only [lzA,fw,iq];done)|fail) only [b0,b1,b2,b3,b4,b5,b6,b7,b8,fw,iz,ft,jg,reduceIte,reduceCtorEq,tB0,tB1,tB2,zf2,zf1,zd3,zkt,zku,zkv,zkw,ff,aggO,zb4,zbh,zf5,zam,zc7,zao,zai,zar,zb7,gb,ii,iy,za9,zcr,zaz,zbs,za8,zju,zco,zcn,zbr,zd2,zgj,zcq,zcp,zea,zd9,zdp,zb1,zdo,zdr,zb3,zdq,q,eqA,eqB,eqsA,eqsB];with_reducible rfl) (hC:F->∀ h2,KP h' h2 K->C h2:=by intro q h2 k;simp only [KP,zbb,ft,reduceIte,iv,il,q] at k;first|exact k|exact trivial) (hR:∀ h2,R h2->Q .normal h2 (stL bs):=by intro h2 k;first | (simp only [onT,onTB];exact k)|exact k):TW Try.prog (EE ax) [] N (.region id ops false) h S Q :=
  nm (zfg ax) own outs hd (hr f) ho (hR _ (hq _ (hC f _ (KP.refl _ K))))
theorem rkp {id:Nat} {ops:Array Oper} {ob:Prop} (K own:List Nat) (vs:List T) (f:F) (ho:ob) (hq:∀ h2,C h2->R h2) (hd:zfb N ops.toList=true:=by kernel_rfl) (hr:F->runT Try.prog (EE ax) [] own ops.toList ops.toList h S (pS S vs)=some (ob,h',stL bs):=by intro q;simp (maxSteps:=900000) (disch:=first|omega|decide | (simp only [lzA,fw,iq];done)|fail) only [yns,ylo,b0,b1,b2,b3,b4,b5,b6,b7,b8,fw,iz,ft,jg,reduceIte,reduceCtorEq,tB0,tB1,tB2,zf2,zf1,zd3,zkt,zku,zkv,zkw,ff,aggO,zb4,zbh,zf5,zam,zc7,zao,zai,zar,zb7,gb,ii,iy,za9,zcr,zaz,zbs,za8,zju,zco,zcn,zbr,zd2,zgj,zcq,zcp,zea,zd9,zdp,zb1,zdo,zdr,zb3,zdq,q,eqA,eqB,eqsA,eqsB];with_reducible rfl) (hC:F->∀ h2,KP h' h2 K->C h2:=by intro q h2 k;simp only [KP,zbb,ft,reduceIte,iv,il,q] at k;first|exact k|exact trivial) (hR:∀ h2,R h2->Q .normal h2 (stL bs):=by intro h2 k;first | (simp only [onT,onTB];exact k)|exact k):TW Try.prog (EE ax) [] N (.region id ops false) h S Q :=
  nm (zfg ax) own (pS S vs) hd (hr f) ho (hR _ (hq _ (hC f _ (KP.refl _ K))))
theorem rg {id:Nat} {ops:Array Oper} {ob:Prop} (own:List Nat) (outs:List (T×TS)) (bs:List Box) (C:(Nat->T)->Prop) (f:F) (ho:ob) (hq:∀ h2,C h2->R h2) (hd:zfb N ops.toList=true:=by kernel_rfl) (hr:F->runT Try.prog (EE ax) [] own ops.toList ops.toList h S outs=some (ob,h',S'):=by intro q;simp (maxSteps:=900000) (disch:=first|omega|decide | (simp only [lzA,fw,iq];done)|fail) only [b0,b1,b2,b3,b4,b5,b6,b7,b8,fw,iz,ft,jg,reduceIte,reduceCtorEq,tB0,tB1,tB2,zf2,zf1,zd3,zkt,zku,zkv,zkw,ff,aggO,zb4,zbh,zf5,zam,zc7,zao,zai,zar,zb7,gb,ii,iy,za9,zcr,zaz,zbs,za8,zju,zco,zcn,zbr,zd2,zgj,zcq,zcp,zea,zd9,zdp,zb1,zdo,zdr,zb3,zdq,q,eqA,eqB,eqsA,eqsB,apA,apB,tSrc];with_reducible rfl) (hS:F->S'=stL bs:=by intro q;first|rfl | (simp only [gsA,zaw,ft,reduceIte,and_self,and_true,true_and,iv,il,q];done) | (simp only [gsA,zaw,ft,reduceIte,and_self,and_true,true_and,iv,il,q];rfl)) (hC:F->C h':=by intro q;first|exact q | (simp only [zbb,ft,reduceIte,and_self,and_true,true_and,iv,il,q];done) | (simp only [gsA,zaw,ft,reduceIte,and_self,and_true,true_and,iv,il,q];done) | (simp only [zbb,ft,reduceIte,and_self,and_true,true_and,iv,il,q];and_intros<;>rfl) | (simp only [gsA,zaw,ft,reduceIte,and_self,and_true,true_and,iv,il,q];and_intros<;>rfl) | (and_intros<;>rfl)) (hR:∀ h2,R h2->Q .normal h2 (stL bs):=by intro h2 k;first | (simp only [onT,onTB];exact k)|exact k):TW Try.prog (EE ax) [] N (.region id ops false) h S Q :=
  nm (zfg ax) own outs hd (hr f) ho (by rw [hS f];exact hR _ (hq _ (hC f)))
theorem dk {id:Nat} {ops:Array Oper} {ob1 ob2:Prop} {h1:Nat->T} (n:Nat) (K:List Nat) (outsP:List T) (own:List Nat) (outs:List (T×TS)) (f:F) (ho1:ob1) (ho2:ob2) (hq:∀ h2,C h2->R h2) (hd:zfb N ops.toList=true:=by kernel_rfl) (hok:zjy n ops.toList=true:=by kernel_rfl) (hp:F->runP Try.prog (EE ax) [] ops.toList (ops.toList.take n) h S outsP=some (ob1,h1):=by intro q;simp (maxSteps:=900000) (disch:=first|omega|decide | (simp only [lzA,fw,iq];done)|fail) only [b0,b1,b2,b3,b4,b5,b6,b7,b8,fw,iz,ft,jg,reduceIte,reduceCtorEq,tB0,tB1,tB2,zf2,zf1,zd3,zkt,zku,zkv,zkw,ff,aggO,zb4,zbh,zf5,zam,zc7,zao,zai,zar,zb7,gb,ii,iy,za9,zcr,zaz,zbs,za8,zju,zco,zcn,zbr,zd2,zgj,zcq,zcp,zea,zd9,zdp,zb1,zdo,zdr,zb3,zdq,q,eqA,eqB,eqsA,eqsB];with_reducible rfl) (hr:F->runT Try.prog (EE ax) [] own ops.toList (ops.toList.drop n) h1 S outs=some (ob2,h',stL bs):=by intro q;simp (maxSteps:=900000) (disch:=first|omega|decide | (simp only [lzA,fw,iq];done)|fail) only [b0,b1,b2,b3,b4,b5,b6,b7,b8,fw,iz,ft,jg,reduceIte,reduceCtorEq,tB0,tB1,tB2,zf2,zf1,zd3,zkt,zku,zkv,zkw,ff,aggO,zb4,zbh,zf5,zam,zc7,zao,zai,zar,zb7,gb,ii,iy,za9,zcr,zaz,zbs,za8,zju,zco,zcn,zbr,zd2,zgj,zcq,zcp,zea,zd9,zdp,zb1,zdo,zdr,zb3,zdq,q,eqA,eqB,eqsA,eqsB];with_reducible rfl) (hC:F->∀ h2,KP h' h2 K->C h2:=by intro q h2 k;simp only [KP,zbb,ft,reduceIte,iv,il,q] at k;first|exact k|exact trivial) (hR:∀ h2,R h2->Q .normal h2 (stL bs):=by intro h2 k;first | (simp only [onT,onTB];exact k)|exact k):TW Try.prog (EE ax) [] N (.region id ops true) h S Q :=
  TW.draw (zfg ax) n outsP own outs hd hok (hp f) ho1 (hr f) ho2 (hR _ (hq _ (hC f _ (KP.refl _ K))))
theorem ds {id:Nat} {ops:Array Oper} {ob1 ob2:Prop} {h1:Nat->T} (n:Nat) (bx:List (Nat×Option Nat)) (K:List Nat) (outsP:List T) (own:List Nat) (outs:List (T×TS)) (f:F) (ho1:ob1) (ho2:ob2) (hq:∀ h2,C h2->R h2) (hd:zfb N ops.toList=true:=by kernel_rfl) (hok:zu4 (EE ax) n bx ops.toList=true:=by kernel_rfl) (hp:F->runP Try.prog (EE ax) [] ops.toList (ops.toList.take n) h S outsP=some (ob1,h1):=by intro q;simp (maxSteps:=900000) (disch:=first|omega|decide | (simp only [lzA,fw,iq];done)|fail) only [b0,b1,b2,b3,b4,b5,b6,b7,b8,fw,iz,ft,jg,reduceIte,reduceCtorEq,tB0,tB1,tB2,zf2,zf1,zd3,zkt,zku,zkv,zkw,ff,aggO,zb4,zbh,zf5,zam,zc7,zao,zai,zar,zb7,gb,ii,iy,za9,zcr,zaz,zbs,za8,zju,zco,zcn,zbr,zd2,zgj,zcq,zcp,zea,zd9,zdp,zb1,zdo,zdr,zb3,zdq,q,eqA,eqB,eqsA,eqsB];with_reducible rfl) (hr:F->runT Try.prog (EE ax) [] own ops.toList (ops.toList.drop n) h1 S outs=some (ob2,h',stL bs):=by intro q;simp (maxSteps:=900000) (disch:=first|omega|decide | (simp only [lzA,fw,iq];done)|fail) only [b0,b1,b2,b3,b4,b5,b6,b7,b8,fw,iz,ft,jg,reduceIte,reduceCtorEq,tB0,tB1,tB2,zf2,zf1,zd3,zkt,zku,zkv,zkw,ff,aggO,zb4,zbh,zf5,zam,zc7,zao,zai,zar,zb7,gb,ii,iy,za9,zcr,zaz,zbs,za8,zju,zco,zcn,zbr,zd2,zgj,zcq,zcp,zea,zd9,zdp,zb1,zdo,zdr,zb3,zdq,q,eqA,eqB,eqsA,eqsB];with_reducible rfl) (hbx:F->zyk bx h' (stL bs):=by intro q;simp (maxSteps:=900000) (disch:=first|omega|decide | (simp only [zyk,adr1,and_self,and_true,true_and,lzA,fw,iq];done)|fail) only [zyk,adr1,and_self,and_true,true_and,b0,b1,b2,b3,b4,b5,b6,b7,b8,fw,iz,ft,jg,reduceIte,reduceCtorEq,tB0,tB1,tB2,zf2,zf1,zd3,zkt,zku,zkv,zkw,ff,aggO,zb4,zbh,zf5,zam,zc7,zao,zai,zar,zb7,gb,ii,iy,za9,zcr,zaz,zbs,za8,zju,zco,zcn,zbr,zd2,zgj,zcq,zcp,zea,zd9,zdp,zb1,zdo,zdr,zb3,zdq,q,eqA,eqB,eqsA,eqsB]) (hC:F->∀ h2,KP h' h2 K->C h2:=by intro q h2 k;simp only [KP,zbb,ft,reduceIte,iv,il,q] at k;first|exact k|exact trivial) (hR:∀ h2,R h2->Q .normal h2 (stL bs):=by intro h2 k;first | (simp only [onT,onTB];exact k)|exact k):TW Try.prog (EE ax) [] N (.region id ops true) h S Q :=
  TW.drawS (zfg ax) n bx outsP own outs hd hok (hp f) ho1 (hr f) ho2 (hbx f) (hR _ (hq _ (hC f _ (KP.refl _ K))))
theorem dg {id:Nat} {ops:Array Oper} {ob1 ob2:Prop} {h1:Nat->T} (n:Nat) (outsP:List T) (own:List Nat) (outs:List (T×TS)) (bs:List Box) (C:(Nat->T)->Prop) (f:F) (ho1:ob1) (ho2:ob2) (hq:∀ h2,C h2->R h2) (hd:zfb N ops.toList=true:=by kernel_rfl) (hok:zjy n ops.toList=true:=by kernel_rfl) (hp:F->runP Try.prog (EE ax) [] ops.toList (ops.toList.take n) h S outsP=some (ob1,h1):=by intro q;simp (maxSteps:=900000) (disch:=first|omega|decide | (simp only [lzA,fw,iq];done)|fail) only [b0,b1,b2,b3,b4,b5,b6,b7,b8,fw,iz,ft,jg,reduceIte,reduceCtorEq,tB0,tB1,tB2,zf2,zf1,zd3,zkt,zku,zkv,zkw,ff,aggO,zb4,zbh,zf5,zam,zc7,zao,zai,zar,zb7,gb,ii,iy,za9,zcr,zaz,zbs,za8,zju,zco,zcn,zbr,zd2,zgj,zcq,zcp,zea,zd9,zdp,zb1,zdo,zdr,zb3,zdq,q,eqA,eqB,eqsA,eqsB,apA,apB,tSrc];with_reducible rfl) (hr:F->runT Try.prog (EE ax) [] own ops.toList (ops.toList.drop n) h1 S outs=some (ob2,h',S'):=by intro q;simp (maxSteps:=900000) (disch:=first|omega|decide | (simp only [lzA,fw,iq];done)|fail) only [b0,b1,b2,b3,b4,b5,b6,b7,b8,fw,iz,ft,jg,reduceIte,reduceCtorEq,tB0,tB1,tB2,zf2,zf1,zd3,zkt,zku,zkv,zkw,ff,aggO,zb4,zbh,zf5,zam,zc7,zao,zai,zar,zb7,gb,ii,iy,za9,zcr,zaz,zbs,za8,zju,zco,zcn,zbr,zd2,zgj,zcq,zcp,zea,zd9,zdp,zb1,zdo,zdr,zb3,zdq,q,eqA,eqB,eqsA,eqsB,apA,apB,tSrc];with_reducible rfl) (hS:F->S'=stL bs:=by intro q;first|rfl | (simp only [gsA,zaw,ft,reduceIte,and_self,and_true,true_and,iv,il,q];done) | (simp only [gsA,zaw,ft,reduceIte,and_self,and_true,true_and,iv,il,q];rfl)) (hC:F->C h':=by intro q;first|exact q | (simp only [zbb,ft,reduceIte,and_self,and_true,true_and,iv,il,q];done) | (simp only [gsA,zaw,ft,reduceIte,and_self,and_true,true_and,iv,il,q];done) | (simp only [zbb,ft,reduceIte,and_self,and_true,true_and,iv,il,q];and_intros<;>rfl) | (simp only [gsA,zaw,ft,reduceIte,and_self,and_true,true_and,iv,il,q];and_intros<;>rfl) | (and_intros<;>rfl)) (hR:∀ h2,R h2->Q .normal h2 (stL bs):=by intro h2 k;first | (simp only [onT,onTB];exact k)|exact k):TW Try.prog (EE ax) [] N (.region id ops true) h S Q :=
  TW.draw (zfg ax) n outsP own outs hd hok (hp f) ho1 (hr f) ho2 (by rw [hS f];exact hR _ (hq _ (hC f)))
theorem kq {C:Prop} (f:F) (hc:F->C:=by intro q;first|exact q | (simp (disch:=decide) only [zj9,zbb,ft,reduceIte,and_self,and_true,true_and,iv,il,q];done) | (simp (disch:=decide) only [zj9,gsA,zaw,ft,reduceIte,and_self,and_true,true_and,iv,il,q];done) | (simp (disch:=decide) only [zj9,zbb,ft,reduceIte,and_self,and_true,true_and,iv,il,q];and_intros<;>rfl) | (simp (disch:=decide) only [zj9,gsA,zaw,ft,reduceIte,and_self,and_true,true_and,iv,il,q];and_intros<;>rfl) | (and_intros<;>rfl)):C:=hc f
theorem ct {c:f7} {t e:Code} (f:F) (k:TW Try.prog (EE ax) [] N t h S Q) (hb:F->zde [] h c=.bool true:=by intro q;first | (simp only [zqd,zja,zlz,q,iv,il];done) | (simp only [zqd,zja,zlz,q,iv,il];exact congrArg T.bool (zAa (by omega)))):TW Try.prog (EE ax) [] N (.cond c t e) h S Q:=sr (hb f) k
theorem cf {c:f7} {t e:Code} (f:F) (k:TW Try.prog (EE ax) [] N e h S Q) (hb:F->zde [] h c=.bool false:=by intro q;first | (simp only [zqd,zja,zlz,q,iv,il];done) | (simp only [zqd,zja,zlz,q,iv,il];exact congrArg T.bool (zAb (by omega)))):TW Try.prog (EE ax) [] N (.cond c t e) h S Q:=sr (hb f) k
theorem sk {R:Prop} (k:R) (hR:R->Q .normal h S:=by intro k;first | (simp (disch:=decide) only [onT,onTB,ja,zi0,cond_true,cond_false];exact k)|exact k):TW Try.prog (EE ax) [] N .skip h S Q:=TW.skip (hR k)
theorem lk {i:Nat} {R:Prop} (k:R) (hR:R->Q .normal h S:=by intro k;first | (simp (disch:=decide) only [onT,onTB,ja,zi0,cond_true,cond_false];exact k)|exact k):TW Try.prog (EE ax) [] N (.label i) h S Q:=TW.label (hR k)
theorem xk {i:Nat} {R:Prop} (k:R) (hR:R->Q (.exit i) h S:=by intro k;first | (simp (disch:=decide) only [onT,onTB,ja,zi0,cond_true,cond_false];exact k)|exact k):TW Try.prog (EE ax) [] N (.exit i) h S Q:=TW.exit (hR k)
theorem gk {c:Code} (K:List Nat) (f:F) (hq:∀ h2,C h2->TW Try.prog (EE ax) [] N c h2 S Q) (hC:F->∀ h2,KP h' h2 K->C h2:=by intro q h2 k;simp only [KP,zbb,ft,reduceIte,iv,il,q] at k;first|exact k|exact trivial):TW Try.prog (EE ax) [] N c h' S Q:=hq _ (hC f _ (KP.refl _ K))
theorem rd {keep:List Nat} {n m0:Nat} {I:Nat->(Nat->T)->List Box->Prop} (m:Nat) (f:F) (hI:I m (zi2 keep h) (bs.take n)) (hm:m<m0:=by omega) (hn:n<=bs.length:=by simp only [lzA]<;>omega) (hb:F->zd1 n (bs.take n)=true:=by intro q;simp only [znb,zbl,zcv,reduceIte,ft,fw,iq,jz,idsA,idsB,zat,q]) (hk:F->zfz keep n h:=by intro q;simp only [znb,zbl,zcv,reduceIte,ft,fw,iq,jz,idsA,idsB,zat,q]):yow keep n I m0 h (stL bs):=⟨m,hm,bs,rfl,hn,hb f,hk f,hI⟩
theorem ce {keep:List Nat} {n:Nat} {I:(Nat->T)->List Box->Prop} (f:F) (hI:I (zi2 keep h) (bs.take n)) (hn:n<=bs.length:=by simp only [lzA]<;>omega) (hb:F->zd1 n (bs.take n)=true:=by intro q;simp only [znb,zbl,zcv,reduceIte,ft,fw,iq,jz,idsA,idsB,zat,q]) (hk:F->zfz keep n h:=by intro q;simp only [znb,zbl,zcv,reduceIte,ft,fw,iq,jz,idsA,idsB,zat,q]):Ends keep n I h (stL bs):=⟨bs,rfl,hn,hb f,hk f,hI⟩
theorem cu {a:Code} (keep:List Nat) (n:Nat) (I:(Nat->T)->List Box->Prop) (hI:TW Try.prog (EE ax) [] N a h (stL bs) (onT (fun h' S'=>Ends keep n I h' S') Q)) {R:(Nat->T)->List Box->Prop} (hk:∀ h bs2,I h bs2->R h bs2) (hn:bs.length<=n:=by simp only [lzA]<;>omega) (hR:∀ h bs2,R h bs2->Q .normal h (stL bs2):=by intro h bs2 k;first | (simp only [onT,onTB];exact k)|exact k):TW Try.prog (EE ax) [] N a h (stL bs) Q:=TW.cutN keep n hn I hI fun h bs2 k=>hR _ _ (hk _ _ k)
theorem rtc (f:F) (hQ:F->Q .ret h S:=by intro q;refine ⟨.inr rfl,by first | (simp (maxSteps:=900000) (disch:=first|omega|decide | (simp only [resT,lzA,fw,iq];done)|fail) only [resT,b0,b1,b2,b3,b4,b5,b6,b7,b8,fw,iz,ft,jg,reduceIte,reduceCtorEq,tB0,tB1,tB2,zf2,zf1,zd3,zkt,zku,zkv,zkw,ff,aggO,zb4,zbh,zf5,zam,zc7,zao,zai,zar,zb7,gb,ii,iy,za9,zcr,zaz,zbs,za8,zju,zco,zcn,zbr,zd2,zgj,zcq,zcp,zea,zd9,zdp,zb1,zdo,zdr,zb3,zdq,q,eqA,eqB,eqsA,eqsB];done) | (simp (maxSteps:=900000) (disch:=first|omega|decide | (simp only [resT,lzA,fw,iq];done)|fail) only [resT,b0,b1,b2,b3,b4,b5,b6,b7,b8,fw,iz,ft,jg,reduceIte,reduceCtorEq,tB0,tB1,tB2,zf2,zf1,zd3,zkt,zku,zkv,zkw,ff,aggO,zb4,zbh,zf5,zam,zc7,zao,zai,zar,zb7,gb,ii,iy,za9,zcr,zaz,zbs,za8,zju,zco,zcn,zbr,zd2,zgj,zcq,zcp,zea,zd9,zdp,zb1,zdo,zdr,zb3,zdq,q,eqA,eqB,eqsA,eqsB];with_reducible rfl)⟩):TW Try.prog (EE ax) [] N .ret h S Q:=sf (hQ f)
theorem rqc {Qp:Prop} (f:F) (hQ:F->Qp:=by intro q;refine ⟨.inr rfl,by first | (simp (maxSteps:=900000) (disch:=first|omega|decide | (simp only [resT,lzA,fw,iq];done)|fail) only [resT,b0,b1,b2,b3,b4,b5,b6,b7,b8,fw,iz,ft,jg,reduceIte,reduceCtorEq,tB0,tB1,tB2,zf2,zf1,zd3,zkt,zku,zkv,zkw,ff,aggO,zb4,zbh,zf5,zam,zc7,zao,zai,zar,zb7,gb,ii,iy,za9,zcr,zaz,zbs,za8,zju,zco,zcn,zbr,zd2,zgj,zcq,zcp,zea,zd9,zdp,zb1,zdo,zdr,zb3,zdq,q,eqA,eqB,eqsA,eqsB];done) | (simp (maxSteps:=900000) (disch:=first|omega|decide | (simp only [resT,lzA,fw,iq];done)|fail) only [resT,b0,b1,b2,b3,b4,b5,b6,b7,b8,fw,iz,ft,jg,reduceIte,reduceCtorEq,tB0,tB1,tB2,zf2,zf1,zd3,zkt,zku,zkv,zkw,ff,aggO,zb4,zbh,zf5,zam,zc7,zao,zai,zar,zb7,gb,ii,iy,za9,zcr,zaz,zbs,za8,zju,zco,zcn,zbr,zd2,zgj,zcq,zcp,zea,zd9,zdp,zb1,zdo,zdr,zb3,zdq,q,eqA,eqB,eqsA,eqsB];with_reducible rfl)⟩):Qp:=hQ f
theorem rt (f:F) (hQ:F->Q .ret h S:=by intro q;refine ⟨.inr rfl,?_⟩;first | (simp only [resT,q];done) | (simp only [resT,q];rfl)):TW Try.prog (EE ax) [] N .ret h S Q:=sf (hQ f)
theorem vk {c:Code} (t e:Nat) (K:List Nat) (f:F) (hq:∀ h2,C h2->TW Try.prog (EE ax) [] N c h2 (stL bs2) Q) (ht:F->h t=.nils:=by intro q;first|rfl | (simp only [zbb,ft,reduceIte,q];done)) (hS:bs++[.cells false 0 []]=bs2:=by simp only [gq,gg];try rfl) (he:tupd h t (.arr (stL bs).n e 0 0 0 0)=h':=by simp only [scB,fw];try rfl) (hC:F->∀ h2,KP h' h2 K->C h2:=by intro q h2 k;simp only [KP,zbb,ft,reduceIte,iv,il,q] at k;first|exact k|exact trivial):TW Try.prog (EE ax) [] N c h (stL bs) Q:=TW.vec t e (ht f) (by rw [z0q,hS,he];exact hq _ (hC f _ (KP.refl _ K)))
theorem nk {c:Code} (t e:Nat) (K:List Nat) (f:F) (hq:∀ h2,C h2->TW Try.prog (EE ax) [] N c h2 S Q) (ht:F->h t=.nils:=by intro q;first|rfl | (simp only [zbb,ft,reduceIte,q];done)) (he:tupd h t (.lst e [])=h':=by rfl) (hC:F->∀ h2,KP h' h2 K->C h2:=by intro q h2 k;simp only [KP,zbb,ft,reduceIte,iv,il,q] at k;first|exact k|exact trivial):TW Try.prog (EE ax) [] N c h S Q:=TW.nilL t e (ht f) (by rw [he];exact hq _ (hC f _ (KP.refl _ K)))
theorem uz {c:Code} (b:Nat) {zz:Bool} {M:Nat} {l:List T} (k:TW Try.prog (EE ax) [] N c h (stL bs2) Q) (hS:(stL bs).box b=.cells zz M l:=by rfl) (hn:b<bs.length:=by simp only [lzA]<;>omega) (hb:bs.set b (.cells false M l)=bs2:=by simp (disch:=decide) only [scA,z32,ld,lw,iz];try rfl):TW Try.prog (EE ax) [] N c h (stL bs) Q:=TW.unz b hS (by rw [zec _ _ _ hn,hb];exact k)
theorem zk {c:Code} (t b M:Nat) (z:Bool) (l:List T) (K:List Nat) (f:F) (hq:∀ h2,C h2->TW Try.prog (EE ax) [] N c h2 (stL bs2) Q) (ht:F->h t=.ptr b 0 M:=by intro q;first|rfl | (simp only [zbb,ft,reduceIte,q];done)) (hS:(stL bs).box b=.cells z M l:=by rfl) (hn:b<bs.length:=by simp only [lzA]<;>omega) (hb:bs.set b .gone=bs2:=by simp (disch:=decide) only [scA,z32,ld,lw,iz];try rfl) (he:tupd h t (.cp l)=h':=by rfl) (hC:F->∀ h2,KP h' h2 K->C h2:=by intro q h2 k;simp only [KP,zbb,ft,reduceIte,iv,il,q] at k;first|exact k|exact trivial):TW Try.prog (EE ax) [] N c h (stL bs) Q:=TW.freezeP t (ht f) hS (by rw [zec _ _ _ hn,hb,he];exact hq _ (hC f _ (KP.refl _ K)))
theorem en {fid:mc} {fn:Func} {body:Code} {args:List T} {v:T} (l:List q8) (N:Nat) (K:List Nat) (hax:ax fid=none) (hf:(EE ax).fn.at fid=some fn) (k:∀ h2,C h2->TW Try.prog (EE ax) [] N body h2 (stL []) (Fin ax l [v])) (hb:fn.body=some body:=by rfl) (hl:fn.results.toList=l:=by rfl) (hn:fn.ntmps=N:=by rfl) (hN:N<=512:=by decide) (hlen:args.length<=N:=by simp) (ha:kb 0 args=true:=by simp only [zbl,zcv,idsA,idsB,zat,gc]) (hv:(v).ids 0=true:=by first|rfl|simp only [zbl,zcv,idsA,idsB,zat,gc]|simp only [tupT,zbl,zcv,idsA,idsB,zat,gc]) (he:argT args 0 (fun _=>.junk)=h':=by simp only [zno,zql,fw];try rfl) (hC:∀ h2,KP h' h2 K->C h2:=by intro h2 k;simp only [KP,zbb,ft,reduceIte] at k;first|exact k|exact trivial):Pure Try.prog (EE ax) [] fid args v :=
  Pure.enter N hax hf hb hn hN hlen ha hv (by rw [hl,he,zs3];exact k _ (hC _ (KP.refl _ K)))
theorem enN {fid:mc} {fn:Func} {body:Code} {args:List T} {vs:List T} (l:List q8) (N:Nat) (K:List Nat) (hax:ax fid=none) (hf:(EE ax).fn.at fid=some fn) (k:∀ h2,C h2->TW Try.prog (EE ax) [] N body h2 (stL []) (Fin ax l vs)) (hb:fn.body=some body:=by rfl) (hl:fn.results.toList=l:=by rfl) (hn:fn.ntmps=N:=by rfl) (hN:N<=512:=by decide) (hlen:args.length<=N:=by simp) (ha:kb 0 args=true:=by simp only [zbl,zcv,idsA,idsB,zat,gc]) (hv:((tupT vs)).ids 0=true:=by first|rfl|simp only [zbl,zcv,idsA,idsB,zat,gc]|simp only [tupT,zbl,zcv,idsA,idsB,zat,gc]) (he:argT args 0 (fun _=>.junk)=h':=by simp only [zno,zql,fw];try rfl) (hC:∀ h2,KP h' h2 K->C h2:=by intro h2 k;simp only [KP,zbb,ft,reduceIte] at k;first|exact k|exact trivial):Pure Try.prog (EE ax) [] fid args (tupT vs) :=
  Pure.enterN N hax hf hb hn hN hlen ha hv (by rw [hl,he,zs3];exact k _ (hC _ (KP.refl _ K)))
def FinB (ax:Axs) (l:List q8) (vs:List T) (bs1:List Box):Exit->(Nat->T)->TS->Prop:=fun e h S=>(e=.normal\/e=.ret)/\resT (EE ax) S h l=some vs/\∃ bs',S=stL bs'/\bs1.length<=bs'.length/\bs'.take bs1.length=bs1/\zd1 bs1.length bs1=true
theorem enB {fid:mc} {fn:Func} {body:Code} {args:List T} {vs:List T} {bs0 bs1:List Box} (l:List q8) (N:Nat) (K:List Nat) (hax:ax fid=none) (hf:(EE ax).fn.at fid=some fn) (k:∀ h2,C h2->TW Try.prog (EE ax) [] N body h2 (stL bs0) (FinB ax l vs bs1)) (hb:fn.body=some body:=by rfl) (hl:fn.results.toList=l:=by rfl) (hn:fn.ntmps=N:=by rfl) (hN:N<=512:=by decide) (hlen:args.length<=N:=by simp) (h01:bs0.length<=bs1.length:=by simp only [lzA]<;>omega) (hv:(tupT vs).ids bs1.length=true:=by first|rfl|simp only [zbl,zcv,idsA,idsB,zat,gc]|simp only [tupT,zbl,zcv,idsA,idsB,zat,gc]) (he:argT args 0 (fun _=>.junk)=h':=by simp only [zno,zql,fw];try rfl) (hC:∀ h2,KP h' h2 K->C h2:=by intro h2 k;simp only [KP,zbb,ft,reduceIte] at k;first|exact k|exact trivial):Call Try.prog (EE ax) [] fid args (stL bs0) (tupT vs) (stL bs1):=by
  refine Call.enter N hax hf hb hn hN hlen h01 hv ((k _ (hC _ (KP.refl _ K))) |> fun k=>?_);rw [he];refine k.mono ?_;rintro e h2 S2 ⟨h1,h3,bs',rfl,h4,h5,h6⟩;refine ⟨h1,vs,by rw [hl];exact h3,_,su _ _,h4,fun b=>?_⟩;by_cases hb:b<bs1.length
  . have e1:(bs'.take bs1.length).getD b .gone=bs'.getD b .gone:=by
      rw [fo,mu,zAc hb,<- fo]
    rw [h5] at e1;refine .inr ⟨hb,e1,?_⟩;show zhv bs1.length (bs'.getD b .gone)=true;rw [<- e1];exact znn (i:=b) h6
  . exact .inl (ybc (by omega))
theorem rtB (f:F) (hQ:F->Q .ret h (stL bs):=by intro q;refine ⟨.inr rfl,by first | (simp only [resT,q];done) | (simp only [resT,q];rfl),_,rfl,by simp only [lzA]<;>omega,by rfl,by simp only [znb,zbl,zcv,reduceIte,ft,fw,iq,jz,idsA,idsB,zat]⟩):TW Try.prog (EE ax) [] N .ret h (stL bs) Q:=sf (hQ f)
theorem rnB (f:F) (hQ:F->Q .normal h (stL bs):=by intro q;refine ⟨.inl rfl,by first | (simp only [resT,q];done) | (simp only [resT,q];rfl),_,rfl,by simp only [lzA]<;>omega,by rfl,by simp only [znb,zbl,zcv,reduceIte,ft,fw,iq,jz,idsA,idsB,zat]⟩):Q .normal h (stL bs):=hQ f
theorem rtBc (f:F) (hQ:F->Q .ret h (stL bs):=by intro q;refine ⟨.inr rfl,by first | (simp (maxSteps:=900000) (disch:=first|omega|decide | (simp only [resT,lzA,fw,iq];done)|fail) only [resT,b0,b1,b2,b3,b4,b5,b6,b7,b8,fw,iz,ft,jg,reduceIte,reduceCtorEq,tB0,tB1,tB2,zf2,zf1,zd3,zkt,zku,zkv,zkw,ff,aggO,zb4,zbh,zf5,zam,zc7,zao,zai,zar,zb7,gb,ii,iy,za9,zcr,zaz,zbs,za8,zju,zco,zcn,zbr,zd2,zgj,zcq,zcp,zea,zd9,zdp,zb1,zdo,zdr,zb3,zdq,q,eqA,eqB,eqsA,eqsB];done) | (simp (maxSteps:=900000) (disch:=first|omega|decide | (simp only [resT,lzA,fw,iq];done)|fail) only [resT,b0,b1,b2,b3,b4,b5,b6,b7,b8,fw,iz,ft,jg,reduceIte,reduceCtorEq,tB0,tB1,tB2,zf2,zf1,zd3,zkt,zku,zkv,zkw,ff,aggO,zb4,zbh,zf5,zam,zc7,zao,zai,zar,zb7,gb,ii,iy,za9,zcr,zaz,zbs,za8,zju,zco,zcn,zbr,zd2,zgj,zcq,zcp,zea,zd9,zdp,zb1,zdo,zdr,zb3,zdq,q,eqA,eqB,eqsA,eqsB];with_reducible rfl),_,rfl,by simp only [lzA]<;>omega,by rfl,by simp only [znb,zbl,zcv,reduceIte,ft,fw,iq,jz,idsA,idsB,zat]⟩):TW Try.prog (EE ax) [] N .ret h (stL bs) Q:=sf (hQ f)
theorem ca {fid:mc} {args args':List T} {v v':T} {bs0 bs1 bs bs':List Box} (rl:List Nat) (k:Call Try.prog (EE ax) [] fid args (stL bs0) v (stL bs1)) (h1:rlOk bs0.length bs1.length bs.length bs'.length rl=true:=by rfl) (h2:kb bs0.length args=true:=by simp only [znb,zbl,zcv,reduceIte,ft,fw,iq,jz,idsA,idsB,zat]) (h3:v.ids bs1.length=true:=by first | (simp only [znb,zbl,zcv,reduceIte,ft,fw,iq,jz,idsA,idsB,zat];done)|rfl|simp only [zbl,zcv,idsA,idsB,zat,gc]|simp only [tupT,zbl,zcv,idsA,idsB,zat,gc]) (h4:PreL (atR rl) bs0.length bs rl bs0:=by (repeat' (first|exact trivial|apply fd))<;>first|rfl | (simp only [znb,zbl,zcv,reduceIte,ft,fw,iq,jz,idsA,idsB,zat];done) | (simp (disch:=(simp only [zbl,zcv,idsA,idsB,zat,gc];done)) only [zer,oq,qo,tupT,zc4,zh1];done) | (simp (disch:=(simp only [zbl,zcv,idsA,idsB,zat,gc];done)) only [zer,oq,qo,tupT,zc4,zh1];rfl)) (h5:PreL (atR rl) bs1.length bs' rl bs1:=by (repeat' (first|exact trivial|apply fd))<;>first|rfl | (simp only [znb,zbl,zcv,reduceIte,ft,fw,iq,jz,idsA,idsB,zat];done) | (simp (disch:=(simp only [zbl,zcv,idsA,idsB,zat,gc];done)) only [zer,oq,qo,tupT,zc4,zh1];done) | (simp (disch:=(simp only [zbl,zcv,idsA,idsB,zat,gc];done)) only [zer,oq,qo,tupT,zc4,zh1];rfl)) (h6:zv0 rl 0 bs bs':=by (repeat' (first|exact trivial|apply fd))<;>first|rfl|exact .inl rfl|exact .inr rfl) (ea:oq (atR rl) args=args':=by first|rfl | (simp (disch:=(simp only [zbl,zcv,idsA,idsB,zat,gc];done)) only [zer,oq,qo,tupT,zc4,zh1];done) | (simp (disch:=(simp only [zbl,zcv,idsA,idsB,zat,gc];done)) only [zer,oq,qo,tupT,zc4,zh1];rfl)) (ev:v.ren (atR rl)=v':=by first|rfl | (simp (disch:=(simp only [zbl,zcv,idsA,idsB,zat,gc];done)) only [zer,oq,qo,tupT,zc4,zh1];done) | (simp (disch:=(simp only [zbl,zcv,idsA,idsB,zat,gc];done)) only [zer,oq,qo,tupT,zc4,zh1];rfl)):Call Try.prog (EE ax) [] fid args' (stL bs) v' (stL bs'):=Call.at rl k h1 h2 h3 h4 h5 h6 ea ev
end
section
variable {ax:Axs} {N:Nat} {h h':Nat->T} {S S':TS} {Q:Exit->(Nat->T)->TS->Prop} {F:Prop} {C:(Nat->T)->Prop} {R:(Nat->T)->Prop} {bs bs2:List Box}
theorem fz {c:Code} (c0 b i:Nat) {e len M N0:Nat} {z z0:Bool} {l l0:List T} (L:List T) (hL:(l.drop 0).take (len*e)=L.flatMap T.cells) (hs:∀ t,t∈L->t.cells.length=e) (hlen:L.length=len) (k:TW Try.prog (EE ax) [] N c h (stL bs2) Q) (hS0:(stL bs).box c0=.cells z0 N0 l0:=by rfl) (hi:l0[i]?=some (.arr b e 0 len len M):=by first|rfl | (simp (disch:=decide) only [gz,lh,sgG,iz,fw];done)) (hS:(stL bs).box b=.cells z M l:=by rfl) (hne:c0≠b:=by decide) (he:0<e:=by decide) (hoff:0+len*e<=M:=by omega) (h1:c0<bs.length:=by simp only [lzA]<;>omega) (h2:b<bs.length:=by simp only [lzA]<;>omega) (hb:(bs.set c0 (.cells z0 N0 (l0.set i (.lst e L)))).set b .gone=bs2:=by simp (disch:=decide) only [scA,z32,ld,lw,iz];try rfl):TW Try.prog (EE ax) [] N c h (stL bs) Q:=TW.freezeC c0 i L hS0 hi hne hS he hoff hL hs hlen (by rw [zec _ _ _ h1,zec _ _ _ (by rw [List.length_set];exact h2),hb];exact k)
theorem vz {c:Code} (c0 i e:Nat) {N0:Nat} {z0:Bool} {l0:List T} (k:TW Try.prog (EE ax) [] N c h (stL bs2) Q) (hS0:(stL bs).box c0=.cells z0 N0 l0:=by rfl) (hi:l0[i]?=some .nils:=by first|rfl | (simp (disch:=decide) only [gz,lh,sgG,iz,fw];done)) (h1:c0<bs.length:=by simp only [lzA]<;>omega) (hb:(bs.set c0 (.cells z0 N0 (l0.set i (.arr (stL bs).n e 0 0 0 0))))++[.cells false 0 []]=bs2:=by simp (disch:=decide) only [scA,scB,z32,ld,lw,iz,gq,gg,fw];try rfl):TW Try.prog (EE ax) [] N c h (stL bs) Q:=TW.vecC c0 i e hS0 hi h1 (by rw [zec _ _ _ h1,z0q,hb];exact k)
theorem nz {c:Code} (c0 i e:Nat) {N0:Nat} {z0:Bool} {l0:List T} (k:TW Try.prog (EE ax) [] N c h (stL bs2) Q) (hS0:(stL bs).box c0=.cells z0 N0 l0:=by rfl) (hi:l0[i]?=some .nils:=by first|rfl | (simp (disch:=decide) only [gz,lh,sgG,iz,fw];done)) (h1:c0<bs.length:=by simp only [lzA]<;>omega) (hb:bs.set c0 (.cells z0 N0 (l0.set i (.lst e [])))=bs2:=by simp (disch:=decide) only [scA,z32,ld,lw,iz];try rfl):TW Try.prog (EE ax) [] N c h (stL bs) Q:=TW.nilC c0 i e hS0 hi (by rw [zec _ _ _ h1,hb];exact k)
theorem enBr {fid:mc} {fn:Func} {body:Code} {args:List T} {vs:List T} {bs0 bs1:List Box} (l:List q8) (N:Nat) (K:List Nat) (hax:ax fid=none) (hf:(EE ax).fn.at fid=some fn) (k:∀ h2,C h2->TW Try.prog (EE ax) [] N body h2 (stL bs0) (FinB ax l vs bs1)) (hb:fn.body=some body:=by rfl) (hl:fn.results.toList=l:=by rfl) (hn:fn.ntmps=N:=by rfl) (hN:N<=512:=by decide) (hlen:args.length<=N:=by simp) (h01:bs0.length<=bs1.length:=by simp only [lzA]<;>omega) (hv:(tupT vs).ids bs1.length=true:=by first|rfl | (simp only [zbl,zcv,idsA,idsB,zat,gc];done) | (simp only [tupT,zbl,zcv,idsA,idsB,zat,gc];done) | (simp only [tupT,zbl,zcv,idsA,idsB,zat,gc];rfl)) (he:argT args 0 (fun _=>.junk)=h':=by simp only [zno,zql,fw];try rfl) (hC:∀ h2,KP h' h2 K->C h2:=by intro h2 k;simp only [KP,zbb,ft,reduceIte] at k;first|exact k|exact trivial):Call Try.prog (EE ax) [] fid args (stL bs0) (tupT vs) (stL bs1):=enB l N K hax hf k hb hl hn hN hlen h01 hv he hC
theorem car {fid:mc} {args args':List T} {v v':T} {bs0 bs1 bs bs':List Box} (rl:List Nat) (k:Call Try.prog (EE ax) [] fid args (stL bs0) v (stL bs1)) (h1:rlOk bs0.length bs1.length bs.length bs'.length rl=true:=by rfl) (h2:kb bs0.length args=true:=by simp only [znb,zbl,zcv,reduceIte,ft,fw,iq,jz,idsA,idsB,zat]) (h3:v.ids bs1.length=true:=by first | (simp only [znb,zbl,zcv,reduceIte,ft,fw,iq,jz,idsA,idsB,zat];done)|rfl | (simp only [zbl,zcv,idsA,idsB,zat,gc];done) | (simp only [tupT,zbl,zcv,idsA,idsB,zat,gc];done) | (simp only [tupT,zbl,zcv,idsA,idsB,zat,gc];rfl)) (h4:PreL (atR rl) bs0.length bs rl bs0:=by (repeat' (first|exact trivial|apply fd))<;>first|rfl | (simp only [znb,zbl,zcv,reduceIte,ft,fw,iq,jz,idsA,idsB,zat];done) | (simp (disch:=(simp only [zbl,zcv,idsA,idsB,zat,gc];done)) only [zer,oq,qo,tupT,zc4,zh1];done) | (simp (disch:=(simp only [zbl,zcv,idsA,idsB,zat,gc];done)) only [zer,oq,qo,tupT,zc4,zh1];rfl)) (h5:PreL (atR rl) bs1.length bs' rl bs1:=by (repeat' (first|exact trivial|apply fd))<;>first|rfl | (simp only [znb,zbl,zcv,reduceIte,ft,fw,iq,jz,idsA,idsB,zat];done) | (simp (disch:=(simp only [zbl,zcv,idsA,idsB,zat,gc];done)) only [zer,oq,qo,tupT,zc4,zh1];done) | (simp (disch:=(simp only [zbl,zcv,idsA,idsB,zat,gc];done)) only [zer,oq,qo,tupT,zc4,zh1];rfl)) (h6:zv0 rl 0 bs bs':=by (repeat' (first|exact trivial|apply fd))<;>first|rfl|exact .inl rfl|exact .inr rfl) (ea:oq (atR rl) args=args':=by first|rfl | (simp (disch:=(simp only [zbl,zcv,idsA,idsB,zat,gc];done)) only [zer,oq,qo,tupT,zc4,zh1];done) | (simp (disch:=(simp only [zbl,zcv,idsA,idsB,zat,gc];done)) only [zer,oq,qo,tupT,zc4,zh1];rfl)) (ev:v.ren (atR rl)=v':=by first|rfl | (simp only [tupT,qo,oq];rw [zh1]<;>first|rfl | (simp only [zbl,zcv,idsA,idsB,zat,gc];done)) | (simp (disch:=(simp only [zbl,zcv,idsA,idsB,zat,gc];done)) only [zer,oq,qo,tupT,zc4,zh1];done) | (simp (disch:=(simp only [zbl,zcv,idsA,idsB,zat,gc];done)) only [zer,oq,qo,tupT,zc4,zh1];rfl)):Call Try.prog (EE ax) [] fid args' (stL bs) v' (stL bs'):=Call.at rl k h1 h2 h3 h4 h5 h6 ea ev
theorem dc {id:Nat} {ops:Array Oper} {ob1 ob2:Prop} {h1:Nat->T} (n:Nat) (cs:List Nat) (K:List Nat) (outsP:List T) (own:List Nat) (outs:List (T×TS)) (f:F) (ho1:ob1) (ho2:ob2) (hq:∀ h2,C h2->R h2) (hd:zfb N ops.toList=true:=by kernel_rfl) (hok:zq7 (EE ax) n cs ops.toList=true:=by kernel_rfl) (hcs:F->z5j h cs:=by intro q;simp only [z5j,isCp,and_self,q]) (hp:F->runP Try.prog (EE ax) [] ops.toList (ops.toList.take n) h S outsP=some (ob1,h1):=by intro q;simp (maxSteps:=900000) (disch:=first|omega|decide | (simp only [lzA,fw,iq];done)|fail) only [b0,b1,b2,b3,b4,b5,b6,b7,b8,fw,iz,ft,jg,reduceIte,reduceCtorEq,tB0,tB1,tB2,zf2,zf1,zd3,zkt,zku,zkv,zkw,ff,aggO,zb4,zbh,zf5,zam,zc7,zao,zai,zar,zb7,gb,ii,iy,za9,zcr,zaz,zbs,za8,zju,zco,zcn,zbr,zd2,zgj,zcq,zcp,zea,zd9,zdp,zb1,zdo,zdr,zb3,zdq,q,eqA,eqB,eqsA,eqsB];with_reducible rfl) (hr:F->runT Try.prog (EE ax) [] own ops.toList (ops.toList.drop n) h1 S outs=some (ob2,h',stL bs):=by intro q;simp (maxSteps:=900000) (disch:=first|omega|decide | (simp only [lzA,fw,iq];done)|fail) only [b0,b1,b2,b3,b4,b5,b6,b7,b8,fw,iz,ft,jg,reduceIte,reduceCtorEq,tB0,tB1,tB2,zf2,zf1,zd3,zkt,zku,zkv,zkw,ff,aggO,zb4,zbh,zf5,zam,zc7,zao,zai,zar,zb7,gb,ii,iy,za9,zcr,zaz,zbs,za8,zju,zco,zcn,zbr,zd2,zgj,zcq,zcp,zea,zd9,zdp,zb1,zdo,zdr,zb3,zdq,q,eqA,eqB,eqsA,eqsB];with_reducible rfl) (hC:F->∀ h2,KP h' h2 K->C h2:=by intro q h2 k;simp only [KP,zbb,ft,reduceIte,iv,il,q] at k;first|exact k|exact trivial) (hR:∀ h2,R h2->Q .normal h2 (stL bs):=by intro h2 k;first | (simp only [onT,onTB];exact k)|exact k):TW Try.prog (EE ax) [] N (.region id ops true) h S Q :=
  TW.drawC (zfg ax) n cs outsP own outs hd hok (hp f) ho1 (hr f) ho2 (hcs f) (hR _ (hq _ (hC f _ (KP.refl _ K))))
theorem dcg {id:Nat} {ops:Array Oper} {ob1 ob2:Prop} {h1:Nat->T} (n:Nat) (cs:List Nat) (outsP:List T) (own:List Nat) (outs:List (T×TS)) (bs:List Box) (C:(Nat->T)->Prop) (f:F) (ho1:ob1) (ho2:ob2) (hq:∀ h2,C h2->R h2) (hd:zfb N ops.toList=true:=by kernel_rfl) (hok:zq7 (EE ax) n cs ops.toList=true:=by kernel_rfl) (hcs:F->z5j h cs:=by intro q;simp only [z5j,isCp,and_self,q]) (hp:F->runP Try.prog (EE ax) [] ops.toList (ops.toList.take n) h S outsP=some (ob1,h1):=by intro q;simp (maxSteps:=900000) (disch:=first|omega|decide | (simp only [lzA,fw,iq];done)|fail) only [b0,b1,b2,b3,b4,b5,b6,b7,b8,fw,iz,ft,jg,reduceIte,reduceCtorEq,tB0,tB1,tB2,zf2,zf1,zd3,zkt,zku,zkv,zkw,ff,aggO,zb4,zbh,zf5,zam,zc7,zao,zai,zar,zb7,gb,ii,iy,za9,zcr,zaz,zbs,za8,zju,zco,zcn,zbr,zd2,zgj,zcq,zcp,zea,zd9,zdp,zb1,zdo,zdr,zb3,zdq,q,eqA,eqB,eqsA,eqsB,apA,apB,tSrc];with_reducible rfl) (hr:F->runT Try.prog (EE ax) [] own ops.toList (ops.toList.drop n) h1 S outs=some (ob2,h',S'):=by intro q;simp (maxSteps:=900000) (disch:=first|omega|decide | (simp only [lzA,fw,iq];done)|fail) only [b0,b1,b2,b3,b4,b5,b6,b7,b8,fw,iz,ft,jg,reduceIte,reduceCtorEq,tB0,tB1,tB2,zf2,zf1,zd3,zkt,zku,zkv,zkw,ff,aggO,zb4,zbh,zf5,zam,zc7,zao,zai,zar,zb7,gb,ii,iy,za9,zcr,zaz,zbs,za8,zju,zco,zcn,zbr,zd2,zgj,zcq,zcp,zea,zd9,zdp,zb1,zdo,zdr,zb3,zdq,q,eqA,eqB,eqsA,eqsB,apA,apB,tSrc];with_reducible rfl) (hS:F->S'=stL bs:=by intro q;first|rfl | (simp only [gsA,zaw,ft,reduceIte,and_self,and_true,true_and,iv,il,q];done) | (simp only [gsA,zaw,ft,reduceIte,and_self,and_true,true_and,iv,il,q];rfl)) (hC:F->C h':=by intro q;first|exact q | (simp only [zbb,ft,reduceIte,and_self,and_true,true_and,iv,il,q];done) | (simp only [gsA,zaw,ft,reduceIte,and_self,and_true,true_and,iv,il,q];done) | (simp only [zbb,ft,reduceIte,and_self,and_true,true_and,iv,il,q];and_intros<;>rfl) | (simp only [gsA,zaw,ft,reduceIte,and_self,and_true,true_and,iv,il,q];and_intros<;>rfl) | (and_intros<;>rfl)) (hR:∀ h2,R h2->Q .normal h2 (stL bs):=by intro h2 k;first | (simp only [onT,onTB];exact k)|exact k):TW Try.prog (EE ax) [] N (.region id ops true) h S Q :=
  TW.drawC (zfg ax) n cs outsP own outs hd hok (hp f) ho1 (hr f) ho2 (hcs f) (by rw [hS f];exact hR _ (hq _ (hC f)))
end
section
variable {P:gn} {Γ:Env} {s s':CS} {v:Value}
end
structure NoAx (ax:Axs):Prop where
  no:∀ f,fy f 9=false->ax f=none
instance {ax:Axs}:Coe (ymv ax) (NoAx ax):=⟨fun h=>⟨h.no⟩⟩
noncomputable def arr1 (ax:Axs) (t:T):Option T:=zj2 (EE ax) (fun _=>t) 43 [(0,.tmp 0)]
theorem ba43 (ax:Axs):∀ (ρ:f7->T) (x:f7),zj2 (EE ax) ρ 43 [(0,x)]=arr1 ax (ρ x):=fun _ _=>rfl
theorem bc43 (ax:Axs):∀ e:Int,arr1 ax (.int .i64 e)=some (.agg ((mkAr 10 [e]).l.map (fh .i64))):=fun _=>rfl
def zf8 (k:Nat) (l:List (List Int)):Nat->Int->(List Rule)->Nat->Option (List Rule×Nat)
 |0,_,_,_=>none
 |m+1,i,l2,n=>(if i<(l.length:Int) then (if 0<=i/\i<(l.length:Int) then (if (0:Int)<=0/\0<((gx l i).length:Int) then (if (0:Int)<=1/\1<((gx l i).length:Int) then (if (0:Int)<=2/\2<((gx l i).length:Int) then (if 0<=(gx (gx l i) 2) then (if (n+1)*201<=1000000000 then zf8 k l m (fi.wrap (i+1)) (l2++[(⟨fi.wrap (100 - i),(⟨(mkAr 10 [gx (gx l i) 0]),(mkAr 10 [gx (gx l i) 1])⟩:Pat),(-1),[[(⟨gx (gx l i) 2,(⟨(mkAr 10 [65535]),(mkAr 10 [gx (gx l i) 2])⟩:Pat)⟩:Alt)]]⟩:Rule)]) (n+1) else none) else (if (n+1)*201<=1000000000 then zf8 k l m (fi.wrap (i+1)) (l2++[(⟨fi.wrap (100 - i),(⟨(mkAr 10 [gx (gx l i) 0]),(mkAr 10 [gx (gx l i) 1])⟩:Pat),(-1),[]⟩:Rule)]) (n+1) else none)) else none) else none) else none) else none) else some (l2,n))
def zh5 (k:Nat) (l:List (List Int)):Option (List Rule):=((zf8 k l k 0 [] 0:Option (List Rule×Nat)).bind fun s_=>(if s_.1.length=s_.2 then some s_.1 else none))
theorem zhh (ax:Axs) (hx:NoAx ax) (k:Nat) (l:List (List Int)) (v:List Rule) (H:zh5 k l=some v):Pure Try.prog (EE ax) [] 27 [z4u l] (zae v):=by
 rw [zh5] at H;refine en [.tmp 2] 61 [0] (hx.no _ (by decide)) (fn27 ax) ?_;intro h hh;apply fg;refine rk [0] [] hh fun h hh=>?_;apply fg;refine rk [0,3] [] hh fun h hh=>?_;refine vk 3 23 [0,3] hh fun h hh=>?_;repeat apply fg
 refine rk [0,3,4] [] hh fun h hh=>?_;obtain ⟨s_,H1,H⟩:=zab H;refine cu [3] 1 (fun h bs=>(h 3=.arr 0 23 0 s_.2 s_.2 (s_.2*23))/\bs=[.cells false (s_.2*23) (vecC zaj s_.1)]) ?_ ?_
 .skip;apply gl;refine jj [0,3,4] (fun m h bs=>∃ (i:Int) (l2:List Rule) (n:Nat),zf8 k l m i l2 n=some s_/\(h 0=z4u l/\h 3=.arr 0 23 0 n n (n*23)/\h 4=.int .i64 i)/\bs=[.cells false (n*23) (vecC zaj l2)]) ?_ k _ _ ?_;rotate_left
  .exact ⟨0,[],0,H1,kq hh,rfl⟩
  clear hh h H1;rintro m h bs ⟨i,l2,n,H1,hh,rfl⟩;rcases m with _|m
  .rw [zf8] at H1;cases H1
  rw [zf8] at H1;repeat apply fg
  refine rk [0,3,4,9] [] (f2 hh (ti63 ax)) fun h hh=>?_;rcases isp H1 with ⟨c1,H1⟩|⟨c1,H1⟩;rotate_left
  .skip;refine cf (f2 hh (zAb c1)) ?_;refine xk ?_;cases H1;exact ce hh ⟨kq hh,rfl⟩
  refine ct (f2 hh (zAa c1)) ?_;refine sk ?_;apply fg;apply gl;obtain ⟨g2,H1⟩:=isg H1;obtain ⟨g3,H1⟩:=isg H1;obtain ⟨g4,H1⟩:=isg H1;apply fg;refine dk 15 [0,3,4,5] [] [] [] (f3 hh (zag g2) (f3 (zag g3) (ba43 ax) (f3 (bc43 ax) (zag g4) (f3 (ynr ax) (ynq ax) (ti63 ax))))) trivial trivial fun h hh=>?_;obtain ⟨g5,H1⟩:=isg H1;repeat apply fg
  refine rk [0,3,4,5,36] [] (f3 hh (zag g2) (f2 (zag g5) (ti63 ax))) fun h hh=>?_;rcases isp H1 with ⟨c6,H1⟩|⟨c6,H1⟩;rotate_left
  .skip;refine cf (f2 hh (zAb c6)) ?_;refine sk ?_;refine nz 1 22 1 ?_;obtain ⟨g8,H1⟩:=isg H1;refine rg [] [] [.cells false ((n+1)*23) (vecC zaj (l2++[(⟨fi.wrap (100 - i),(⟨(mkAr 10 [gx (gx l i) 0]),(mkAr 10 [gx (gx l i) 1])⟩:Pat),(-1),[]⟩:Rule)])),.cells true 23 (fh .i64 (fi.wrap (100 - i)) :: ((mkAr 10 [gx (gx l i) 0]).l.map (fh .i64)++((mkAr 10 [gx (gx l i) 1]).l.map (fh .i64)++[fh .i64 (-1),za3 []])))] (fun h=>h 0=z4u l/\h 3=.arr 0 23 0 (n+1) (n+1) ((n+1)*23)/\h 4=.int .i64 i) (f2 hh ((show vecC zaj [(⟨fi.wrap (100 - i),(⟨(mkAr 10 [gx (gx l i) 0]),(mkAr 10 [gx (gx l i) 1])⟩:Pat),(-1),[]⟩:Rule)]=(fh .i64 ((⟨fi.wrap (100 - i),(⟨(mkAr 10 [gx (gx l i) 0]),(mkAr 10 [gx (gx l i) 1])⟩:Pat),(-1),[]⟩:Rule).prio) :: ((((⟨fi.wrap (100 - i),(⟨(mkAr 10 [gx (gx l i) 0]),(mkAr 10 [gx (gx l i) 1])⟩:Pat),(-1),[]⟩:Rule).mat).mask).l.map (fh .i64)++((((⟨fi.wrap (100 - i),(⟨(mkAr 10 [gx (gx l i) 0]),(mkAr 10 [gx (gx l i) 1])⟩:Pat),(-1),[]⟩:Rule).mat).bits).l.map (fh .i64)++[fh .i64 ((⟨fi.wrap (100 - i),(⟨(mkAr 10 [gx (gx l i) 0]),(mkAr 10 [gx (gx l i) 1])⟩:Pat),(-1),[]⟩:Rule).step),za3 ((⟨fi.wrap (100 - i),(⟨(mkAr 10 [gx (gx l i) 0]),(mkAr 10 [gx (gx l i) 1])⟩:Pat),(-1),[]⟩:Rule).outs)]))) from zdk.trans rfl))) trivial fun h hh=>?_;refine rk [0,3,4] [] hh fun h hh=>?_;exact rd m hh ⟨(fi.wrap (i+1)),(l2++[(⟨fi.wrap (100 - i),(⟨(mkAr 10 [gx (gx l i) 0]),(mkAr 10 [gx (gx l i) 1])⟩:Pat),(-1),[]⟩:Rule)]),(n+1),H1,kq hh,rfl⟩
  refine ct (f2 hh (zAa c6)) ?_;refine dk 13 [0,3,4,5] [] [] [] (f3 hh (zag g2) (f3 (zag g5) (ba43 ax) (f3 (bc43 ax) (bt86 ax) (f3 (el57 ax) (el87 ax) (f3 (ynp ax) (yno ax) (ti63 ax)))))) trivial trivial fun h hh=>?_;obtain ⟨g7,H1⟩:=isg H1;refine rg [] [] [.cells false ((n+1)*23) (vecC zaj (l2++[(⟨fi.wrap (100 - i),(⟨(mkAr 10 [gx (gx l i) 0]),(mkAr 10 [gx (gx l i) 1])⟩:Pat),(-1),[[(⟨gx (gx l i) 2,(⟨(mkAr 10 [65535]),(mkAr 10 [gx (gx l i) 2])⟩:Pat)⟩:Alt)]]⟩:Rule)])),.cells true 23 (fh .i64 (fi.wrap (100 - i)) :: ((mkAr 10 [gx (gx l i) 0]).l.map (fh .i64)++((mkAr 10 [gx (gx l i) 1]).l.map (fh .i64)++[fh .i64 (-1),za3 [[(⟨gx (gx l i) 2,(⟨(mkAr 10 [65535]),(mkAr 10 [gx (gx l i) 2])⟩:Pat)⟩:Alt)]]])))] (fun h=>h 0=z4u l/\h 3=.arr 0 23 0 (n+1) (n+1) ((n+1)*23)/\h 4=.int .i64 i) (f2 hh ((show vecC zaj [(⟨fi.wrap (100 - i),(⟨(mkAr 10 [gx (gx l i) 0]),(mkAr 10 [gx (gx l i) 1])⟩:Pat),(-1),[[(⟨gx (gx l i) 2,(⟨(mkAr 10 [65535]),(mkAr 10 [gx (gx l i) 2])⟩:Pat)⟩:Alt)]]⟩:Rule)]=(fh .i64 ((⟨fi.wrap (100 - i),(⟨(mkAr 10 [gx (gx l i) 0]),(mkAr 10 [gx (gx l i) 1])⟩:Pat),(-1),[[(⟨gx (gx l i) 2,(⟨(mkAr 10 [65535]),(mkAr 10 [gx (gx l i) 2])⟩:Pat)⟩:Alt)]]⟩:Rule).prio) :: ((((⟨fi.wrap (100 - i),(⟨(mkAr 10 [gx (gx l i) 0]),(mkAr 10 [gx (gx l i) 1])⟩:Pat),(-1),[[(⟨gx (gx l i) 2,(⟨(mkAr 10 [65535]),(mkAr 10 [gx (gx l i) 2])⟩:Pat)⟩:Alt)]]⟩:Rule).mat).mask).l.map (fh .i64)++((((⟨fi.wrap (100 - i),(⟨(mkAr 10 [gx (gx l i) 0]),(mkAr 10 [gx (gx l i) 1])⟩:Pat),(-1),[[(⟨gx (gx l i) 2,(⟨(mkAr 10 [65535]),(mkAr 10 [gx (gx l i) 2])⟩:Pat)⟩:Alt)]]⟩:Rule).mat).bits).l.map (fh .i64)++[fh .i64 ((⟨fi.wrap (100 - i),(⟨(mkAr 10 [gx (gx l i) 0]),(mkAr 10 [gx (gx l i) 1])⟩:Pat),(-1),[[(⟨gx (gx l i) 2,(⟨(mkAr 10 [65535]),(mkAr 10 [gx (gx l i) 2])⟩:Pat)⟩:Alt)]]⟩:Rule).step),za3 ((⟨fi.wrap (100 - i),(⟨(mkAr 10 [gx (gx l i) 0]),(mkAr 10 [gx (gx l i) 1])⟩:Pat),(-1),[[(⟨gx (gx l i) 2,(⟨(mkAr 10 [65535]),(mkAr 10 [gx (gx l i) 2])⟩:Pat)⟩:Alt)]]⟩:Rule).outs)]))) from zdk.trans rfl))) trivial fun h hh=>?_;refine rk [0,3,4] [] hh fun h hh=>?_;exact rd m hh ⟨(fi.wrap (i+1)),(l2++[(⟨fi.wrap (100 - i),(⟨(mkAr 10 [gx (gx l i) 0]),(mkAr 10 [gx (gx l i) 1])⟩:Pat),(-1),[[(⟨gx (gx l i) 2,(⟨(mkAr 10 [65535]),(mkAr 10 [gx (gx l i) 2])⟩:Pat)⟩:Alt)]]⟩:Rule)]),(n+1),H1,kq hh,rfl⟩
 clear hh h;rintro h bs ⟨hh,rfl⟩;apply fg;refine rk [2] [] hh fun h hh=>?_;obtain ⟨g9,H⟩:=isg H;refine TW.freeze 2 (b:=0) (e:=23) (off:=0) (len:=s_.2) (cap:=s_.2) (M:=(s_.2*23)) (s_.1.map zaj) (kq hh) (by rfl) (by omega) (by omega) (by rw [gp];exact zc5 (fun x=>zau x) g9) (fun t ht=>by obtain ⟨x,_,rfl⟩:=List.mem_map.1 ht;first|rfl|exact zf6 _|exact za1 _|exact zd0 _|exact zau _ | (rw [fq];rfl)) (by rw [fq]<;>exact g9) (by omega) ?_;rw [zec _ _ _ (by simp only [lzA]<;>omega)];simp only [scA];refine gk [2] hh fun h hh=>?_;cases H;exact rt hh
section
variable {GL:List (Nat×List Value)} {A A' A2:Nat->Prop} {β β' β2:Bx} {S S' S2:TS} {s s' s2:CS} {P:gn} {Γ:Env} {N:Nat} {h h' h2:Nat->T} {Q R:Exit->(Nat->T)->TS->Prop}
def KeyT (i:It) (GL:List (Nat×List Value)) (caps:List T) (k:List Nat):Prop :=
  ∀ (A:Nat->Prop) (β:Bx) (S:TS) (s:CS) (vs:List Value),TRel GL A β S s->VL A β (zaa s.obj) caps vs->∃ s',i.key vs s=some (k,s')/\TRel GL A β S s'/\Stp A β s A β s'/\s'.obj=s.obj
def z9j:(Nat->T)->List Tmp->List T->Nat->T
  |h,p :: ps,t :: ts=>z9j (tupd h p t) ps ts
  |h,_,_=>h
theorem zzg {g:Nat->Fam}:∀ {ps:List Tmp} {ts:List T} {vs:List Value} {h:Nat->T} {fr:Fr},(∀ p,p∈ps->p<N)->VL A β g ts vs->FrOk A β g N h fr->FrOk A β g N (z9j h ps ts) (zpq fr ps vs)
  |[],ts,vs,h,fr,_,_,hF=>hF
  |p :: ps,_,_,h,fr,hp,.nil,hF=>hF
  |p :: ps,_,_,h,fr,hp,.cons h1 h2,hF=>zzg (ps:=ps) (fun q hq=>hp q (.tail _ hq)) h2 (hF.put (d:=some p) (fun t ht=>by cases ht;exact hp p (.head _)) h1)
theorem zot:∀ l:List Nat,zh0 l l=true
  |[]=>rfl
  |a :: l=>by simp only [zh0,ja,zot l,gc]
def RQ (I:List (List T)->TS->Prop) (rest:List (List T)) (h:Nat->T) (Q:Exit->(Nat->T)->TS->Prop):Exit->(Nat->T)->TS->Prop:=fun e _ S'=>match e with
  |.normal=>I rest S'
  |.ret=>Q .ret h S'
  |.exit j=>Q (.exit j) h S'
  |_=>False
theorem yb4 {i:It} {caps:List T} {k:List Nat} {ps:List Tmp} {a b:Code} (hk:KeyT i GL caps k) (hps:∀ p,p∈ps->p<N) (I:List (List T)->TS->Prop)
    (hstep:∀ x rest S,I (x :: rest) S->x.length=ps.length/\TW P Γ GL N a (z9j h ps x) S fun e h1 S1=>e=.normal/\TW P Γ GL N b h1 S1 (RQ I rest h Q)) (hend:∀ S,I [] S->Q .normal h S) :
    ∀ (X:List (List T)) (xs:List (List Value)) (S:TS) (A:Nat->Prop) (β:Bx) (s:CS) (fr:Fr) (vcaps:List Value),X.length=xs.length->(∀ (j:Nat) (x:List T) (v:List Value),X[j]?=some x->xs[j]?=some v->∀ (A:Nat->Prop) (β:Bx) (g:Nat->Fam),VL A β g x v) ->
      FrOk A β (zaa s.obj) N h fr->TRel GL A β S s->VL A β (zaa s.obj) caps vcaps->I X S ->
      ∃ n e s2,zds (cm P Γ n) (i.key vcaps) k ps a b fr xs s=some (e,s2)/\∃ S2,Left GL A β s N fr s2 h S2/\Q e h S2:=by
  intro X
  induction X with
  |nil =>
    intro xs S A β s fr vcaps hlen hX hF hT hc hI
    cases xs with
    |cons _ _=>simp at hlen
    |nil=>exact ⟨0,.normal,s,rfl,S,Left.refl hF hT,hend S hI⟩
  |cons x X ih =>
    intro xs S A β s fr vcaps hlen hX hF hT hc hI
    cases xs with
    |nil=>simp at hlen
    |cons v xs =>
      obtain ⟨hl,hw⟩:=hstep x X S hI;have hv:=hX 0 x v rfl rfl;have hvl:v.length=ps.length:=by rw [<- (hv A β (zaa s.obj)).len,hl]
      obtain ⟨e1,fr1,s1,⟨n1,ev1⟩,h1,S1,⟨A1,β1,f1,t1,p1⟩,rfl,hb⟩:=hw A β _ s (zzg hps (hv A β (zaa s.obj)) hF) hT;obtain ⟨e2,fr2,s2,⟨n2,ev2⟩,h2,S2,⟨A2,β2,f2,t2,p2⟩,hq⟩:=hb A1 β1 fr1 s1 f1 t1;have p12:=p1.trans hT.le p2;have fr12:FrOk A2 β2 (zaa s2.obj) N h fr:=hF.mono p12.sub (p12.old hT) p12.bx
      have fin:∀ e:Exit,(e=.ret\/∃ j,e=.exit j)->e2=e->∃ n e3 s3,zds (cm P Γ n) (i.key vcaps) k ps a b fr (v :: xs) s=some (e3,s3)/\∃ S3,Left GL A β s N fr s3 h S3/\Q e3 h S3:=by
        rintro e he rfl;refine ⟨max n1 n2,e2,s2,?_,S2,⟨A2,β2,fr12,t2,p12⟩,?_⟩
        . rw [zds,zh3 hvl,zbe,zht (ky n1 n2) ev1];simp only;rw [zht (li n1 n2) ev2];rcases he with rfl|⟨j,rfl⟩<;>rfl
        . rcases he with rfl|⟨j,rfl⟩<;>exact hq
      cases e2 with
      |ret=>exact fin _ (.inl rfl) rfl
      |exit j=>exact fin _ (.inr ⟨j,rfl⟩) rfl
      |normal =>
        obtain ⟨s3,k1,k2,k3,k4⟩:=hk A2 β2 S2 s2 vcaps t2 (p12.vl hT hc);have p13:=p12.trans hT.le k3;obtain ⟨n3,e4,s4,r1,S4,⟨A4,β4,f4,t4,p4⟩,q4⟩:=ih xs S2 A2 β2 s3 fr vcaps (by simpa using hlen) (fun j y w hy hw=>hX (j+1) y w (by simpa using hy) (by simpa using hw)) (by rw [k4];exact fr12) k2 (by rw [k4];exact p12.vl hT hc) hq;refine ⟨max (max n1 n2) n3,e4,s4,?_,S4,⟨A4,β4,f4,t4,p13.trans hT.le p4⟩,q4⟩;rw [zds,zh3 hvl,zbe,zht (jv (ky n1 n2) (ky _ n3)) ev1];simp only;rw [zht (jv (li n1 n2) (ky _ n3)) ev2];simp only;rw [k1];simp only;rw [zot,zbe];exact zpl (fun c fr s r hr=>zht (li _ n3) hr) xs _ _ r1
      |goto _=>exact absurd hq fun x=>x
      |panic _=>exact absurd hq fun x=>x
      |outgrown=>exact absurd hq fun x=>x
theorem TW.range {i:It} {g:f7} {gf:mc} {caps:List T} {k:List Nat} {ps:Array Tmp} {a b:Code} (X:List (List T)) (I:List (List T)->TS->Prop) (hg:zde GL h g=.fn gf [] caps) (hit:Γ.it gf=some i) (hk:KeyT i GL caps k) (hps:∀ p,p∈ps.toList->p<N)
    (hlen:X.length=(i.xs k).length) (hX:∀ (j:Nat) (x:List T) (v:List Value),X[j]?=some x->(i.xs k)[j]?=some v->∀ (A:Nat->Prop) (β:Bx) (g:Nat->Fam),VL A β g x v)
    (h0:I X S) (hstep:∀ x rest S,I (x :: rest) S->x.length=ps.toList.length/\TW P Γ GL N a (z9j h ps.toList x) S fun e h1 S1=>e=.normal/\TW P Γ GL N b h1 S1 (RQ I rest h Q)) (hend:∀ S,I [] S->Q .normal h S) :
    TW P Γ GL N (.rangeFunc g ps a b) h S Q:=fun A β fr s hF hT=>by
  have hv:=hF.eval hT g;rw [hg] at hv;generalize hgv:zg6 fr g=v at hv
  cases hv with
  |fn hva hvc =>
    cases hva;obtain ⟨s1,k1,k2,k3,k4⟩:=hk A β S s _ hT hvc;obtain ⟨n,e,s2,r1,S2,l2,q2⟩:=yb4 hk hps I hstep hend X (i.xs k) S A β s1 fr _ hlen hX (by rw [k4];exact hF) k2 (by rw [k4];exact hvc) h0;refine ⟨e,fr,s2,⟨n+1,?_⟩,h,S2,qe (h':=h) (fr':=fr) hT.le k3 l2,q2⟩;rw [cm,hgv];unfold zpo;simp only [hit];rw [k1];simp only;rw [r1]
def RX (h:Nat->T) (Q:Exit->(Nat->T)->TS->Prop):Exit->(Nat->T)->TS->Prop:=fun e _ S'=>match e with
  |.ret=>Q .ret h S'
  |.exit j=>Q (.exit j) h S'
  |_=>False
theorem ymt {j:Nat}:RX h Q (.exit j) h' S=Q (.exit j) h S:=rfl
theorem zzc {n id:Nat} {ops:Array Oper} {dr:Bool} {fr fr':Fr} {e:Exit} (hc:cm P Γ n (.region id ops dr) fr s=some (e,fr',s')):e=.normal:=by
  cases n with
  |zero=>simp [cm] at hc
  |succ n =>
    have h' : (bif dr then match drawC P Γ (zfh P Γ n) ops.toList ops.toList fr s with
        |some (logs,fr,t)=>bif calm s.n ops.toList logs then some (Exit.normal,fr,t) else none
        |none=>none
      else match runC P Γ (zfh P Γ n) ops.toList ops.toList fr s with
        |some (fr,s)=>some (Exit.normal,fr,s)
        |none=>none)=some (e,fr',s'):=hc
    cases dr with
    |true =>
      simp only [cond_true] at h';split at h'
      . obtain ⟨_,h'⟩:=zfc h';simp only [fe,fm] at h';exact h'.1.symm
      . simp at h'
    |false =>
      simp only [cond_false] at h';split at h'
      . simp only [fe,fm] at h';exact h'.1.symm
      . simp at h'
theorem TW.rng0 {i:It} {g:f7} {gf:mc} {caps:List T} {k:List Nat} {ps:Array Tmp} {a b:Code} (hg:zde GL h g=.fn gf [] caps) (hit:Γ.it gf=some i) (hk:KeyT i GL caps k) (hx:i.xs k=[]) (hq:Q .normal h S) :
    TW P Γ GL N (.rangeFunc g ps a b) h S Q:=fun A β fr s hF hT=>by
  have hv:=hF.eval hT g;rw [hg] at hv;generalize hgv:zg6 fr g=v at hv
  cases hv with
  |fn hva hvc =>
    cases hva;obtain ⟨s1,k1,k2,k3,k4⟩:=hk A β S s _ hT hvc;refine ⟨.normal,fr,s1,⟨1,?_⟩,h,S,⟨A,β,by rw [k4];exact hF,k2,k3⟩,hq⟩;rw [cm,hgv];unfold zpo;simp only [hit];rw [k1];simp only;rw [hx];rfl
theorem TW.rng1 {i:It} {g:f7} {gf:mc} {caps:List T} {k:List Nat} {p:Tmp} {id:Nat} {ops:Array Oper} {dr:Bool} {b:Code} (x:T) {v:Value} {rest:List (List Value)} (hg:zde GL h g=.fn gf [] caps) (hit:Γ.it gf=some i) (hk:KeyT i GL caps k) (hp:p<N) (hx:i.xs k=[v] :: rest) (hv:∀ (A:Nat->Prop) (β:Bx) (g:Nat->Fam),VT A β g x v)
    (hb:TW P Γ GL N (.seq (.region id ops dr) b) (tupd h p x) S (RX h Q)):TW P Γ GL N (.rangeFunc g #[p] (.region id ops dr) b) h S Q:=fun A β fr s hF hT=>by
  have hgt:=hF.eval hT g;rw [hg] at hgt;generalize hgv:zg6 fr g=gv at hgt
  cases hgt with
  |fn hva hvc =>
    cases hva;obtain ⟨s1,k1,k2,k3,k4⟩:=hk A β S s _ hT hvc;have hF1:FrOk A β (zaa s1.obj) N h fr:=by rw [k4];exact hF
    obtain ⟨e,fr2,s2,⟨n,ev⟩,h2,S2,⟨A2,β2,f2,t2,p2⟩,hq⟩:=hb A β (fr.put p v) s1 (hF1.put (d:=some p) (fun t ht=>by cases ht;exact hp) (hv A β _)) k2;have fO:FrOk A2 β2 (zaa s2.obj) N h fr:=hF1.mono p2.sub (p2.old k2) p2.bx;have l2:Left GL A β s N fr s2 h S2:=qe (h':=h) (fr':=fr) hT.le k3 ⟨A2,β2,fO,t2,p2⟩
    cases n with
    |zero=>simp [cm] at ev
    |succ n =>
      simp only [cm] at ev
      have fin:∀ e:Exit,(e=.ret\/∃ j,e=.exit j)->(∃ fr1 s3,cm P Γ n (.region id ops dr) (fr.put p v) s1=some (.normal,fr1,s3)/\cm P Γ n b fr1 s3=some (e,fr2,s2))->Q e h S2->W P Γ (.rangeFunc g #[p] (.region id ops dr) b) fr s fun e fr' s'=>∃ h' S',Left GL A β s N fr' s' h' S'/\Q e h' S':=by
        rintro e he ⟨fr1,s3,e1,e2⟩ hQ
        have hr:∀ key,zds (cm P Γ n) key k [p] (.region id ops dr) b fr ([v] :: rest) s1=some (e,s2):=by
          intro key;rw [zds,show fy [v].length [p].length=true from rfl,zbe,show zpq fr [p] [v]=fr.put p v from rfl,e1];simp only;rw [e2];rcases he with rfl|⟨j,rfl⟩<;>rfl
        refine ⟨e,fr,s2,⟨n+1,?_⟩,h,S2,l2,hQ⟩;rw [cm,hgv];unfold zpo;simp only [hit];rw [k1];simp only;rw [hx]
        first
          |rw [hr]
          |(rw [show (#[p]:Array Tmp).toList=[p] from rfl,hr])
      have step:∃ fr1 s3,cm P Γ n (.region id ops dr) (fr.put p v) s1=some (.normal,fr1,s3)/\cm P Γ n b fr1 s3=some (e,fr2,s2):=by
        cases hr:cm P Γ n (.region id ops dr) (fr.put p v) s1 with
        |none=>rw [hr] at ev;simp at ev
        |some q =>
          obtain ⟨e1,fr1,s3⟩:=q;have:=zzc hr;subst this;rw [hr] at ev;exact ⟨fr1,s3,rfl,ev⟩
      cases e with
      |ret=>exact fin _ (.inl rfl) step hq
      |exit j=>exact fin _ (.inr ⟨j,rfl⟩) step hq
      |normal=>exact absurd hq fun x=>x
      |goto _=>exact absurd hq fun x=>x
      |panic _=>exact absurd hq fun x=>x
      |outgrown=>exact absurd hq fun x=>x
end
section
variable {GL:List (Nat×List Value)} {A A' A2:Nat->Prop} {β β' β2:Bx} {S S' S2:TS} {s s' s2:CS} {P:gn} {Γ:Env} {N:Nat} {h h' h2:Nat->T} {Q R:Exit->(Nat->T)->TS->Prop} {bs:List Box}
def RLs (n:Nat) (I:List (List T)->List Box->Prop) (rest:List (List T)) (h:Nat->T) (Q:Exit->(Nat->T)->TS->Prop):Exit->(Nat->T)->TS->Prop:=fun e _ S'=>match e with
  |.normal=>∃ bs',S'=stL bs'/\n<=bs'.length/\zd1 n (bs'.take n)=true/\I rest (bs'.take n)
  |.ret=>Q .ret h S'
  |.exit j=>Q (.exit j) h S'
  |_=>False
theorem z4v (l:List Nat) (h:Nat->T):zi2 l (zi2 l h)=zi2 l h:=by
  funext t;unfold zi2;by_cases c:t∈l
  . rw [zAc c]
  . rw [zAd c,zAd c]
theorem zpy {n:Nat} {h:Nat->T}:∀ {l m:List Nat},(∀ t,t∈m->t∈l)->zfz m n h->zfz m n (zi2 l h)
  |l,[],_,_=>trivial
  |l,t :: m,hs,k=>⟨by unfold zi2;rw [zAc (hs t (.head _))];exact k.1,zpy (fun u hu=>hs u (.tail _ hu)) k.2⟩
theorem z9c {i:It} {g:f7} {gf:mc} {caps:List T} {k:List Nat} {ps:List Tmp} {a b:Code} (hg:zde GL h g=.fn gf [] caps) (hk:KeyT i GL caps k) (hps:∀ p,p∈ps->p<N) (keep:List Nat) (n:Nat) (hh:zi2 keep h=h) (hki:zfz keep n h) (I:List (List T)->List Box->Prop)
    (hstep:∀ x rest bs,bs.length=n->I (x :: rest) bs->x.length=ps.length/\TW P Γ GL N a (z9j h ps x) (stL bs) fun e h1 S1=>e=.normal/\TW P Γ GL N b h1 S1 (RLs n I rest h Q)) (hend:∀ bs,bs.length=n->I [] bs->Q .normal h (stL bs)) :
    ∀ (X:List (List T)) (xs:List (List Value)) (bs:List Box) (A:Nat->Prop) (β:Bx) (s:CS) (fr:Fr) (vcaps:List Value),X.length=xs.length->(∀ (j:Nat) (x:List T) (v:List Value),X[j]?=some x->xs[j]?=some v->∀ (A:Nat->Prop) (β:Bx) (g:Nat->Fam),VL A β g x v) ->
      FrOk A β (zaa s.obj) N h fr->TRel GL A β (stL bs) s->bs.length=n->(∀ (A:Nat->Prop) (β:Bx) (s:CS) (S:TS),FrOk A β (zaa s.obj) N h fr->TRel GL A β S s->VL A β (zaa s.obj) caps vcaps)->I X bs ->
      ∃ n e s2,zds (cm P Γ n) (i.key vcaps) k ps a b fr xs s=some (e,s2)/\∃ S2,Left GL A β s N fr s2 h S2/\Q e h S2:=by
  intro X
  induction X with
  |nil =>
    intro xs bs A β s fr vcaps hlen hX hF hT hn hc hI
    cases xs with
    |cons _ _=>simp at hlen
    |nil=>exact ⟨0,.normal,s,rfl,_,Left.refl hF hT,hend bs hn hI⟩
  |cons x X ih =>
    intro xs bs A β s fr vcaps hlen hX hF hT hn hc hI
    cases xs with
    |nil=>simp at hlen
    |cons v xs =>
      obtain ⟨hl,hw⟩:=hstep x X bs hn hI;have hv:=hX 0 x v rfl rfl;have hvl:v.length=ps.length:=by rw [<- (hv A β (zaa s.obj)).len,hl]
      obtain ⟨e1,fr1,s1,⟨n1,ev1⟩,h1,S1,⟨A1,β1,f1,t1,p1⟩,rfl,hb⟩:=hw A β _ s (zzg hps (hv A β (zaa s.obj)) hF) hT;obtain ⟨e2,fr2,s2,⟨n2,ev2⟩,h2,S2,⟨A2,β2,f2,t2,p2⟩,hq⟩:=hb A1 β1 fr1 s1 f1 t1;have p12:=p1.trans hT.le p2;have fr12:FrOk A2 β2 (zaa s2.obj) N h fr:=hF.mono p12.sub (p12.old hT) p12.bx
      have fin:∀ e:Exit,(e=.ret\/∃ j,e=.exit j)->e2=e->∃ n e3 s3,zds (cm P Γ n) (i.key vcaps) k ps a b fr (v :: xs) s=some (e3,s3)/\∃ S3,Left GL A β s N fr s3 h S3/\Q e3 h S3:=by
        rintro e he rfl;refine ⟨max n1 n2,e2,s2,?_,S2,⟨A2,β2,fr12,t2,p12⟩,?_⟩
        . rw [zds,zh3 hvl,zbe,zht (ky n1 n2) ev1];simp only;rw [zht (li n1 n2) ev2];rcases he with rfl|⟨j,rfl⟩<;>rfl
        . rcases he with rfl|⟨j,rfl⟩<;>exact hq
      cases e2 with
      |ret=>exact fin _ (.inl rfl) rfl
      |exit j=>exact fin _ (.inr ⟨j,rfl⟩) rfl
      |normal =>
        obtain ⟨bs',rfl,hl',hbi,hI'⟩:=hq;have l0:Left GL A β s N fr s2 h (stL bs'):=⟨A2,β2,fr12,t2,p12⟩;have l1:=Left.trim (fr:=fr) (keep:=keep) (bs:=bs) (bs2:=bs'.take n) (extra:=bs'.drop n) hT (by rw [i9];exact l0) (by rw [ik];omega) (by rw [hn];exact hbi) (by rw [hn];exact hki);rw [hh] at l1;obtain ⟨A3,β3,f3,t3,p3⟩:=l1;obtain ⟨s3,k1,k2,k3,k4⟩:=hk A3 β3 _ s2 vcaps t3 (hc A3 β3 s2 _ f3 t3);have p13:=p3.trans hT.le k3;obtain ⟨n3,e4,s4,r1,S4,⟨A4,β4,f4,t4,p4⟩,q4⟩:=ih xs (bs'.take n) A3 β3 s3 fr vcaps (by simpa using hlen) (fun j y w hy hw=>hX (j+1) y w (by simpa using hy) (by simpa using hw)) (by rw [k4];exact f3) k2 (by rw [ik];omega) hc hI';refine ⟨max (max n1 n2) n3,e4,s4,?_,S4,⟨A4,β4,f4,t4,p13.trans hT.le p4⟩,q4⟩;rw [zds,zh3 hvl,zbe,zht (jv (ky n1 n2) (ky _ n3)) ev1];simp only;rw [zht (jv (li n1 n2) (ky _ n3)) ev2];simp only;rw [k1];simp only;rw [zot,zbe];exact zpl (fun c fr s r hr=>zht (li _ n3) hr) xs _ _ r1
      |goto _=>exact absurd hq fun x=>x
      |panic _=>exact absurd hq fun x=>x
      |outgrown=>exact absurd hq fun x=>x
theorem TW.rangeL {i:It} {g:f7} {gf:mc} {caps:List T} {k:List Nat} {ps:Array Tmp} {a b:Code} (keep:List Nat) (X:List (List T)) (I:List (List T)->List Box->Prop) (hg:zde GL (zi2 keep h) g=.fn gf [] caps) (hit:Γ.it gf=some i) (hk:KeyT i GL caps k) (hps:∀ p,p∈ps.toList->p<N)
    (hki:zfz keep bs.length h) (hlen:X.length=(i.xs k).length) (hX:∀ (j:Nat) (x:List T) (v:List Value),X[j]?=some x->(i.xs k)[j]?=some v->∀ (A:Nat->Prop) (β:Bx) (g:Nat->Fam),VL A β g x v)
    (h0:I X bs) (hstep:∀ x rest bs1,bs1.length=bs.length->I (x :: rest) bs1->x.length=ps.toList.length/\TW P Γ GL N a (z9j (zi2 keep h) ps.toList x) (stL bs1) fun e h1 S1=>e=.normal/\TW P Γ GL N b h1 S1 (RLs bs.length I rest (zi2 keep h) Q)) (hend:∀ bs1,bs1.length=bs.length->I [] bs1->Q .normal (zi2 keep h) (stL bs1)) :
    TW P Γ GL N (.rangeFunc g ps a b) h (stL bs) Q:=fun A β fr s hF0 hT=>by
  have hF:FrOk A β (zaa s.obj) N (zi2 keep h) fr:=⟨hF0.nt,hF0.le,fun t=>by
    unfold zi2;by_cases c:t∈keep
    . rw [zAc c];exact hF0.slot t
    . rw [zAd c];exact .junk _⟩
  have hv:=hF.eval hT g;rw [hg] at hv;generalize hgv:zg6 fr g=v at hv
  cases hv with
  |fn hva hvc =>
    rename_i va vc;cases hva
    have hcaps:∀ (A:Nat->Prop) (β:Bx) (s:CS) (S:TS),FrOk A β (zaa s.obj) N (zi2 keep h) fr->TRel GL A β S s->VL A β (zaa s.obj) caps _:=fun A β s S hF hT=>by
      have hv2:=hF.eval hT g;rw [hg,hgv] at hv2
      cases hv2 with
      |fn _ hvc2=>exact hvc2
    obtain ⟨s1,k1,k2,k3,k4⟩:=hk A β _ s _ hT hvc;obtain ⟨n,e,s2,r1,S2,l2,q2⟩:=z9c hg hk hps keep bs.length (z4v _ _) (zpy (fun _ h=>h) hki) I hstep hend X (i.xs k) bs A β s1 fr _ hlen hX (by rw [k4];exact hF) k2 rfl hcaps h0;refine ⟨e,fr,s2,⟨n+1,?_⟩,_,S2,qe (h':=zi2 keep h) (fr':=fr) hT.le k3 l2,q2⟩;rw [cm,hgv];unfold zpo;simp only [hit];rw [k1];simp only;rw [r1]
end
theorem ycr (ax:Axs) (hx:NoAx ax) (q p:Pat):Pure Try.prog (EE ax) [] 88 [ePat q,ePat p] (.fn 93 [] [.cp (q.mask.l.map (fh .i64)++(q.bits.l.map (fh .i64))),.cp (p.mask.l.map (fh .i64)++(p.bits.l.map (fh .i64)))]):=by
  refine en [.tmp 4] 6 [0,1] (hx.no _ (by decide)) (fn88 ax) ?_ (hv:=by simp only [T.ids,kb,zax,zgl,gc]);intro h hh;repeat apply fg
  refine rk [2,3] [] hh fun h hh=>?_;refine zk 2 0 20 true (q.mask.l.map (fh .i64)++(q.bits.l.map (fh .i64))) [2,3] hh fun h hh=>?_;refine zk 3 1 20 true (p.mask.l.map (fh .i64)++(p.bits.l.map (fh .i64))) [2,3] hh fun h hh=>?_;repeat apply fg
  refine rk [4] [] hh fun h hh=>?_;exact rt hh
def zgu (a:Ar 10):List Nat:=a.l.map Int.toNat
def natM (a:Ar 10):Prop:=∀ x,x∈a.l->0<=x/\x<9223372036854775808
instance (a:Ar 10):Decidable (natM a):=by unfold natM;infer_instance
def zvy:Nat->Nat->List Nat
  |0,_=>[]
  |f+1,w=>if w=0 then [] else (15 - Nat.log2 w) :: zvy f (w - 2 ^ Nat.log2 w)
def zr9:Nat->List Nat->List Nat->List Nat
  |i,a :: l,b :: m=>(zvy 17 ((a - (a &&& b)) % 65536)).map (fun x=>16*i+x)++zr9 (i+1) l m
  |_,_,_=>[]
def z9o (q p:Ar 10):List Nat:=zr9 0 (zgu q) (zgu p)
theorem z8y:∀ (f w:Nat),zvc f w=zvy f w
  |0,w=>by unfold zvc zvy;rfl
  |f+1,w=>by
    rw [zvc,zvy,zcl,<- z8y f];by_cases h:w=0
    . rw [zAc h,zAc (by rw [h];rfl)]
    . rw [zAd h,zAd (by intro q;exact h (fl q))];rfl
theorem z6x:∀ (i:Nat) (l m:List Nat),zou i l m=zr9 i l m
  |i,a :: l,b :: m=>by
    rw [zou,zr9,<- z6x,z8y];rfl
  |_,[],m=>by cases m<;>(unfold zou zr9;rfl)
  |_,_ :: _,[]=>by unfold zou zr9;rfl
theorem zqx {A:Nat->Prop} {β:Bx} {g:Nat->Fam}:∀ (l:List Int) (r:List T) (cs:List Value),(∀ x,x∈l->0<=x/\x<9223372036854775808)->VL A β g (l.map (fh .i64)++r) cs->zgt l.length cs=some (l.map Int.toNat)
  |[],r,cs,_,_=>by unfold zgt;rfl
  |x :: l,r,_,h,.cons h1 h2=>by
    cases h1;have hx:=h x (.head _);have ih:=zqx l r _ (fun y hy=>h y (.tail _ hy)) h2;obtain ⟨n,rfl⟩:=jt hx.1
    have e:i64N (.int .i64 (n:Int))=some n:=by
      unfold i64N;have h2:n<9223372036854775808:=by omega
      show sel (and (fy (ikN .i64) (ikN .i64)) (ic n 9223372036854775808)) (some n) none=some n;rw [ja,zad.2 h2];rfl
    rw [gh,zgt,e,ih];rfl
theorem zxb:∀ {n:Nat} {l l2:List Value} {x:List Nat},zgt n l=some x->zgt n (l++l2)=some x:=by
  intro n
  induction n with
  |zero=>intro l l2 x hx;unfold zgt at hx ⊢;exact hx
  |succ n ih =>
    intro l l2 x hx
    cases l with
    |nil=>simp [zgt] at hx
    |cons y l =>
      rw [zgt] at hx;rw [gq,zgt]
      cases h1:i64N y with
      |none=>rw [h1] at hx;simp at hx
      |some m =>
        rw [h1] at hx
        cases h2:zgt n l with
        |none=>rw [h2] at hx;simp at hx
        |some q=>rw [h2] at hx;rw [ih (l2:=l2) h2];exact hx
theorem zxa {GL:List (Nat×List Value)} {A:Nat->Prop} {β:Bx} {S:TS} {s:CS} {a:Ar 10} {r:List T} {v:Value} (ha:natM a) (hT:TRel GL A β S s) (hv:VT A β (zaa s.obj) (.cp (a.l.map (fh .i64)++r)) v) :
    ∃ s',zkp 10 s v=some (zgu a,s')/\TRel GL A β S s'/\Stp A β s A β s'/\s'.obj=s.obj:=by
  cases hv with
  |@cp l f u off cs cs0 hA hr hl hc =>
    have e1:s.readRow (mkA f u off)=some (cs0,{ s with rd:=ins s.lim s.rd f }):=by
      unfold ol;have:zbp (zaa s.obj (mkA f u off).block).rows (Addr.ver (mkA f u off))=some cs0:=hr;rw [this];rfl
    have e2:zgt 10 (cs0.drop off)=some (zgu a):=by
      have k:=zqx a.l r cs ha hl;rw [a.h] at k;rw [<- i9 cs.length (cs0.drop off),hc];exact zxb k
    refine ⟨{ s with rd:=ins s.lim s.rd f },?_,hT.read f,Stp.read (.inl hA),rfl⟩;unfold zkp;simp only [e1];rw [show (mkA f u off).off=off from rfl,e2]
theorem z7e {a b:Ar 10} {r r2:List T} (ha:natM a) (hb:natM b):KeyT zj8 [] [.cp (a.l.map (fh .i64)++r),.cp (b.l.map (fh .i64)++r2)] (zgu a++zgu b):=by
  intro A β S s vs hT hv
  cases hv with
  |cons h1 h2 =>
    cases h2 with
    |cons h3 h4 =>
      cases h4;obtain ⟨s1,k1,k2,k3,k4⟩:=zxa ha hT h1;obtain ⟨s2,m1,m2,m3,m4⟩:=zxa hb k2 (by rw [k4];exact h3);refine ⟨s2,?_,m2,k3.trans hT.le m3,by rw [m4,k4]⟩
      show (match zkp 10 s _ with
        |some (l,s1)=>(match zkp 10 s1 _ with|some (m,s2)=>some (l++m,s2)|none=>none)
        |none=>none)=_
      rw [k1];simp only;rw [m1]
theorem yai (a b:Ar 10):zj8.xs (zgu a++zgu b)=(z9o a b).map fun n=>[Value.int .i64 (.ofNat n)]:=by
  have e:(zgu a).length=10:=by unfold zgu;rw [fq,a.h]
  show (zou 0 ((zgu a++zgu b).take 10) ((zgu a++zgu b).drop 10)).map _=_;rw [<- e,ru,rv,z6x];rfl
theorem ydq (ax:Axs):(EE ax).it 93=some zj8:=by
  show z4w Try.prog LL 93=some zj8
  kernel_rfl
def rngF {α:Type} (l:List Nat) (e:α) (f:Nat->α):α:=match l with | []=>e|x :: _=>f x
theorem isr {α:Type} {l:List Nat} {e:Option α} {f:Nat->Option α} {v:α} (h:rngF l e f=some v):(l=[]/\e=some v)\/∃ x r,l=x :: r/\f x=some v:=by
  cases l with
  |nil=>exact .inl ⟨rfl,h⟩
  |cons x r=>exact .inr ⟨x,r,rfl,h⟩
section
variable {ax:Axs} {N:Nat} {h:Nat->T} {bs:List Box} {Q:Exit->(Nat->T)->TS->Prop} {F R:Prop} {a b:Ar 10} {r r2:List T}
theorem rx0 {t : Tmp} {ps : Array Tmp} {c d : Code} (f : F) (k : R) (ha : natM a) (hb : natM b) (hl : z9o a b = []) (hg : F -> h t = .fn 93 [] [.cp (a.l.map (fh .i64) ++ r), .cp (b.l.map (fh .i64) ++ r2)] := by intro q; first | (simp only [q]; done) | (simp only [q]; rfl))
    (hR:R->Q .normal h (stL bs):=by intro k;first | (simp (disch:=decide) only [onT,onTB,ja,zi0,cond_true,cond_false];exact k)|exact k):TW Try.prog (EE ax) [] N (.rangeFunc (.tmp t) ps c d) h (stL bs) Q :=
  TW.rng0 (hg f) (ydq ax) (z7e ha hb) (by rw [yai,hl];rfl) (hR k)
theorem rx1 {t p : Tmp} {id : Nat} {ops : Array Oper} {dr : Bool} {d : Code} {x : Nat} {l : List Nat} (f : F) (ha : natM a) (hb : natM b) (hl : z9o a b = x :: l) (k : TW Try.prog (EE ax) [] N (.seq (.region id ops dr) d) (tupd h p (.int .i64 (x : Int))) (stL bs) (RX h Q)) (hg : F -> h t = .fn 93 [] [.cp (a.l.map (fh .i64) ++ r), .cp (b.l.map (fh .i64) ++ r2)] := by intro q; first | (simp only [q]; done) | (simp only [q]; rfl))
    (hp:p<N:=by decide):TW Try.prog (EE ax) [] N (.rangeFunc (.tmp t) #[p] (.region id ops dr) d) h (stL bs) Q :=
  TW.rng1 (.int .i64 (x:Int)) (hg f) (ydq ax) (z7e ha hb) hp (by rw [yai,hl];rfl) (fun _ _ _=>.int _ _) k
theorem xr {i:Nat} {h1:Nat->T} {Q1:Exit->(Nat->T)->TS->Prop} (k:R) (hR:R->Q1 (.exit i) h1 (stL bs):=by intro k;first | (simp (disch:=decide) only [onT,onTB,ymt,ja,zi0,cond_true,cond_false];exact k)|exact k):TW Try.prog (EE ax) [] N (.exit i) h1 (stL bs) Q1:=TW.exit (hR k)
end
theorem zxd (ax:Axs) (hx:NoAx ax) (t:List Rule):Pure Try.prog (EE ax) [] 46 [zae t] (.fn 66 [] [.cp [zae t]]):=by
  refine en [.tmp 2] 4 [0] (hx.no _ (by decide)) (fn46 ax) ?_ (hv:=by simp only [T.ids,kb,zax,zgl,zuk,gc]);intro h hh;apply fg;refine rk [1] [] hh fun h hh=>?_;refine zk 1 0 1 true [zae t] [1] hh fun h hh=>?_;apply fg;refine rk [2] [] hh fun h hh=>?_;exact rt hh
def natR (t:List Rule):Prop:=∀ r,r∈t->natM r.mat.mask
def zxc (t:List Rule):Prop:=t.length<1000000000/\natR t
instance (t:List Rule):Decidable (natR t):=by unfold natR;infer_instance
instance (t:List Rule):Decidable (zxc t):=by unfold zxc;infer_instance
def zt0 (t:List Rule) (k:Nat):Nat->List Merg
  |0=>[]
  |i+1=>zt0 t k i++(if (gx t i).mat.mask=(gx t k).mat.mask then [⟨2,i,k⟩,⟨3,i,k⟩] else [])
def allL (t:List Rule):Nat->List Merg
  |0=>[]
  |k+1=>allL t k++zt0 t k k
def zu2:Nat->List Merg
  |0=>[]
  |i+1=>zu2 i++[⟨1,i,0⟩]
def zzn (t:List Rule):List Merg:=zu2 t.length++allL t t.length
def zm7 (t:List Rule):List Nat:=t.flatMap fun r=>zgu r.mat.mask
theorem zuc (a:Ar 10):(zgu a).length=10:=by unfold zgu;rw [fq,a.h]
theorem zyn:∀ (t:List Rule) (i:Nat),i<t.length->zes (zm7 t) i=zgu (gx t i).mat.mask
  |[],i,h=>absurd h (Nat.not_lt_zero _)
  |r :: t,0,_=>by
    unfold zes zm7;rw [jb,Nat.mul_zero,gp,show (10:Nat)=(zgu r.mat.mask).length from (zuc _).symm,ru];rfl
  |r :: t,i+1,h=>by
    have ih:=zyn t i (by simpa using h);unfold zes zm7 at ih ⊢;rw [jb,mh,zuc,iw (by rw [zuc];omega),gg,show 10*(i+1) - 10=10*i by omega,ih];rfl
theorem yc9 {a b:Ar 10} (ha:natM a) (hb:natM b) (h:zgu a=zgu b):a=b:=by
  have:a.l=b.l:=by
    unfold zgu at h
    have q:∀ (l m:List Int),(∀ x,x∈l->0<=x)->(∀ x,x∈m->0<=x)->l.map Int.toNat=m.map Int.toNat->l=m:=by
      intro l
      induction l with
      |nil=>intro m _ _ h;cases m with
        |nil=>rfl
        |cons _ _=>simp at h
      |cons x l ih =>
        intro m hl hm h
        cases m with
        |nil=>simp at h
        |cons y m =>
          simp only [i4,List.cons.injEq] at h;have h1:=hl x (.head _);have h2:=hm y (.head _);rw [show x=y by omega,ih m (fun z hz=>hl z (.tail _ hz)) (fun z hz=>hm z (.tail _ hz)) h.2]
    exact q _ _ (fun x hx=>(ha x hx).1) (fun x hx=>(hb x hx).1) h
  cases a;cases b;simp only at this;subst this;rfl
theorem zwr:∀ {l m:List Nat},zh0 l m=decide (l=m)
  |[],[]=>by simp [zh0]
  |a :: l,b :: m=>by
    rw [zh0,zwr];by_cases h:a=b
    . subst h;rw [ja,jy];simp
    . rw [show fy a b=false from zi0 h,rz];simp [h]
  |[],_ :: _=>by simp [zh0]
  |_ :: _,[]=>by simp [zh0]
noncomputable def mV (m:Merg):List Value:=zvu m.kind.toNat m.i.toNat m.k.toNat
theorem yd8 {t:List Rule} {i:Nat} (h:i<t.length):gx t (i:Int)∈t:=by
  have:gx t (i:Int)=t[i]:=by
    unfold gx;show t.getD i default=t[i];rw [fo,fk h];rfl
  rw [this];exact List.getElem_mem h
theorem z6t {t:List Rule} (hn:natR t) {k:Nat} (hk:k<t.length):∀ i,i<=k->zi5 (zm7 t) k i=(zt0 t k i).map mV
  |0,_=>rfl
  |i+1,h=>by
    rw [zi5,zt0,z6t hn hk i (by omega),nd,zyn t i (by omega),zyn t k hk,zwr,zcl];congr 1;by_cases c:(gx t i).mat.mask=(gx t k).mat.mask
    . rw [zAc c,zAc (by rw [c];simp)];rfl
    . rw [zAd c,zAd (by
        intro q
        exact c (yc9 (hn _ (yd8 (by omega))) (hn _ (yd8 hk)) (zAe q)))]
      rfl
theorem ykr {t:List Rule} (hn:natR t):∀ k,k<=t.length->zcw (zm7 t) k=(allL t k).map mV
  |0,_=>rfl
  |k+1,h=>by rw [zcw,allL,ykr hn k (by omega),nd,z6t hn (by omega) k (fp _)]
theorem z76:∀ n,ziz n=(zu2 n).map mV
  |0=>rfl
  |n+1=>by
    rw [ziz,zu2,z76 n,nd];rfl
theorem z5o {t:List Rule} (hn:natR t):zg5.xs (t.length :: zm7 t)=(zzn t).map mV:=by
  show ziz t.length++zcw (zm7 t) t.length=_;rw [z76,ykr hn _ (fp _),zzn,nd]
def zt8 (m:Merg):Prop:=0<=m.kind/\0<=m.i/\0<=m.k
theorem z1t (t:List Rule) (k:Nat):∀ i m,m∈zt0 t k i->zt8 m
  |0,m,h=>by simp [zt0] at h
  |i+1,m,h=>by
    rw [zt0,io] at h;rcases h with h|h
    . exact z1t t k i m h
    . split at h
      . simp only [kj,List.not_mem_nil,or_false] at h;rcases h with rfl|rfl<;>(refine ⟨?_,?_,?_⟩<;>simp)
      . simp at h
theorem yc2 (t:List Rule):∀ k m,m∈allL t k->zt8 m
  |0,m,h=>by simp [allL] at h
  |k+1,m,h=>by
    rw [allL,io] at h;rcases h with h|h
    . exact yc2 t k m h
    . exact z1t t k k m h
theorem z1u:∀ n m,m∈zu2 n->zt8 m
  |0,m,h=>by simp [zu2] at h
  |n+1,m,h=>by
    rw [zu2,io] at h;rcases h with h|h
    . exact z1u n m h
    . simp only [kj,List.not_mem_nil,or_false] at h;subst h;refine ⟨?_,?_,?_⟩<;>simp
theorem ygi {t:List Rule} {m:Merg} (h:m∈zzn t):zt8 m:=by
  rw [zzn,io] at h;rcases h with h|h
  . exact z1u _ _ h
  . exact yc2 _ _ _ h
theorem ymr {A:Nat->Prop} {β:Bx} {g:Nat->Fam} {m:Merg} (h:zt8 m):VL A β g [zib m] (mV m):=by
  obtain ⟨kind,i,k⟩:=m;obtain ⟨h1,h2,h3⟩:=h;simp only at h1 h2 h3;obtain ⟨a,rfl⟩:=jt h1;obtain ⟨b,rfl⟩:=jt h2;obtain ⟨c,rfl⟩:=jt h3;exact .cons (.agg (.cons (.int _ _) (.cons (.int _ _) (.cons (.int _ _) .nil)))) .nil
theorem zu1 (r:Rule):(zaj r).cells=fh .i64 r.prio :: (r.mat.mask.l.map (fh .i64)++(r.mat.bits.l.map (fh .i64)++[fh .i64 r.step,za3 r.outs])):=rfl
theorem z69 {A:Nat->Prop} {β:Bx} {g:Nat->Fam}:∀ (t:List Rule) (cs l2:List Value),natR t->VL A β g ((t.map zaj).flatMap T.cells) cs->zkq t.length (cs++l2)=some (zm7 t)
  |[],cs,l2,_,_=>by unfold zkq;rfl
  |r :: t,cs,l2,hn,hv=>by
    rw [i4,jb] at hv;obtain ⟨c1,c2,rfl,v1,v2⟩:=hv.split
    have hlen:c1.length=23:=by
      rw [<- v1.len,zu1];simp [r.mat.mask.h,r.mat.bits.h]
    rw [zu1] at v1;have ih:=z69 t c2 l2 (fun x hx=>hn x (.tail _ hx)) v2
    cases v1 with
    |cons w1 w2 =>
      rename_i a c1;have k:=zqx r.mat.mask.l _ _ (hn r (.head _)) w2;rw [r.mat.mask.h] at k;rw [gh,zkq,gq,gq,kv,gp,gj,zxb k]
      rw [show (a :: (c1++(c2++l2))).drop 23=c2++l2 from by
        have e:a :: (c1++(c2++l2))=(a :: c1)++(c2++l2):=rfl
        rw [e,<- hlen,rv]]
      rw [ih];rfl
theorem ydj {t:List Rule} (hn:zxc t):KeyT zg5 [] [.cp [zae t]] (t.length :: zm7 t):=by
  intro A β S s vs hT hv
  cases hv with
  |cons h1 h2 =>
    cases h2
    cases h1 with
    |@cp l f u off cs cs0 hA hr hl hc =>
      cases hl with
      |cons h3 h4 =>
        cases h4;rename_i v
        have e1:s.readRow (mkA f u off)=some (cs0,{ s with rd:=ins s.lim s.rd f }):=by
          unfold ol;have:zbp (zaa s.obj (mkA f u off).block).rows (Addr.ver (mkA f u off))=some cs0:=hr;rw [this];rfl
        have e2:∃ r,cs0.drop off=v :: r:=by
          cases hd:cs0.drop off with
          |nil=>rw [hd] at hc;simp at hc
          |cons a r=>rw [hd] at hc;simp at hc;exact ⟨r,by rw [hc]⟩
        obtain ⟨r,e2⟩:=e2
        have key:∃ s',zre { s with rd:=ins s.lim s.rd f } v=some (t.length :: zm7 t,s')/\TRel [] A β S s'/\Stp A β s A β s'/\s'.obj=s.obj:=by
          have s1:Stp A β s A β { s with rd:=ins s.lim s.rd f }:=Stp.read (.inl hA);have t1:=hT.read f;unfold zae at h3;generalize hw:t.map zaj=w at h3
          cases h3 with
          |lnil =>
            have:t=[]:=List.map_eq_nil_iff.1 hw;subst this;exact ⟨_,rfl,t1,s1,rfl⟩
          |lst hA2 hr2 hl2 hc2 he2 hcut htag hle =>
            rename_i f2 u2 off2 cap cs2 cs02;subst hw
            cases t with
            |nil=>exact ⟨_,rfl,t1,s1,rfl⟩
            |cons r t =>
              have q1:ol { s with rd:=ins s.lim s.rd f } (mkA f2 u2 off2)=some (cs02,{ s with rd:=ins s.lim (ins s.lim s.rd f) f2 }):=by
                unfold ol;have:zbp (zaa s.obj (mkA f2 u2 off2).block).rows (Addr.ver (mkA f2 u2 off2))=some cs02:=hr2;simp only [this];rfl
              have q2:zkq (r :: t).length (cs02.drop off2)=some (zm7 (r :: t)):=by
                rw [<- i9 cs2.length (cs02.drop off2),hcut];exact z69 (r :: t) cs2 _ hn.2 hl2
              refine ⟨{ s with rd:=ins s.lim (ins s.lim s.rd f) f2 },?_,t1.read f2,s1.trans hT.le (Stp.read (s:={ s with rd:=ins s.lim s.rd f }) (.inl hA2)),rfl⟩;rw [fq,gh,zre,q1];simp only;rw [show (mkA f2 u2 off2).off=off2 from rfl,<- gh (a:=r),q2];have hb:ic (r :: t).length 1000000000=true:=zad.2 hn.1;simp only [hb,zbe]
        obtain ⟨s',k1,k2,k3,k4⟩:=key;refine ⟨s',?_,k2,k3,k4⟩
        show (match s.readRow (mkA f u off) with
          |some (cs,s1)=>(match cs.drop off with
            |v :: _=>zre s1 v
            |[]=>none)
          |none=>none)=_
        rw [e1];simp only;rw [e2];exact k1
theorem yg0 (ax:Axs):(EE ax).it 66=some zg5:=by
  show z4w Try.prog LL 66=some zg5
  kernel_rfl
def RM (n:Nat) (J:List Box->Prop) (h:Nat->T) (Q:Exit->(Nat->T)->TS->Prop):Exit->(Nat->T)->TS->Prop:=fun e _ S'=>match e with
  |.normal=>∃ bs',S'=stL bs'/\n<=bs'.length/\zd1 n (bs'.take n)=true/\J (bs'.take n)
  |.ret=>Q .ret h S'
  |.exit j=>Q (.exit j) h S'
  |_=>False
section
variable {ax:Axs} {N:Nat} {h h1 hO:Nat->T} {S:TS} {bs:List Box} {Q Q0 Q1:Exit->(Nat->T)->TS->Prop} {F R:Prop}
theorem ymu {n j:Nat} {J:List Box->Prop}:RM n J h Q (.exit j) h1 S=Q (.exit j) h S:=rfl
theorem yox {n:Nat} {J:List Box->Prop}:RM n J h Q .ret h1 S=Q .ret h S:=rfl
theorem rm {t p:Tmp} {id:Nat} {ops:Array Oper} {dr:Bool} {d:Code} {R:(Nat->T)->List Box->Prop} (keep:List Nat) (tb:List Rule) (J:List Merg->List Box->Prop) (C:(Nat->T)->Prop) (f:F) (hn:zxc tb) (h0:J (zzn tb) bs)
    (hstep:∀ hO,C hO->∀ m l bs1,J (m :: l) bs1->TW Try.prog (EE ax) [] N (.region id ops dr) (tupd hO p (zib m)) (stL bs1) (onT (fun h1 S1=>TW Try.prog (EE ax) [] N d h1 S1 (RM bs.length (J l) hO Q)) (fun _ _ _=>False)))
    (hk:∀ hO,C hO->∀ bs2,J [] bs2->R hO bs2)
    (hR:∀ hO bs2,R hO bs2->Q .normal hO (stL bs2):=by intro h bs2 k;first | (simp only [onT,onTB];exact k)|exact k)
    (hC:F->C (zi2 keep h):=by intro q;first | (simp (disch:=decide) only [zj9,zbb,ft,reduceIte,and_self,and_true,true_and,iv,il,q];done) | (simp (disch:=decide) only [zj9,zbb,ft,reduceIte,and_self,and_true,true_and,iv,il,q];and_intros<;>rfl))
    (hg:∀ hO,C hO->hO t=.fn 66 [] [.cp [zae tb]]:=by intro hO q;simp only [q])
    (hki:F->zfz keep bs.length h:=by intro q;simp only [lzA,znb,zbl,zcv,reduceIte,ft,fw,iq,jz,idsA,idsB,zat,q])
    (hp:p<N:=by decide):TW Try.prog (EE ax) [] N (.rangeFunc (.tmp t) #[p] (.region id ops dr) d) h (stL bs) Q:=by
  refine TW.rangeL keep ((zzn tb).map fun m=>[zib m]) (fun rest bs1=>∃ l,rest=l.map (fun m=>[zib m])/\J l bs1) (gf:=66) (caps:=[.cp [zae tb]]) (hg _ (hC f)) (yg0 ax) (ydj hn) (fun q hq=>by simp only [List.mem_singleton] at hq;rw [hq];exact hp) (hki f) (by rw [z5o hn.2,fq,fq]) ?_ ⟨_,rfl,h0⟩ ?_ ?_
  . intro j x v hx hv A β g;rw [z5o hn.2,lj] at hv;rw [lj] at hx
    cases hm:(zzn tb)[j]? with
    |none=>rw [hm] at hx;simp at hx
    |some m =>
      rw [hm] at hx hv;simp only [Option.map_some,fe] at hx hv;subst hx;subst hv;exact ymr (ygi (jl hm))
  . rintro x rest bs1 hl ⟨l,hl2,hJ⟩
    cases l with
    |nil=>simp at hl2
    |cons m l =>
      simp only [i4,List.cons.injEq] at hl2;obtain ⟨rfl,rfl⟩:=hl2;refine ⟨rfl,?_⟩;refine TW.mono (hstep _ (hC f) m l bs1 hJ) ?_;intro e h1 S1 k
      cases e with
      |normal =>
        refine ⟨rfl,TW.mono k ?_⟩;intro e h2 S2 k2
        cases e with
        |normal =>
          obtain ⟨bs',k3,k4,k5,k6⟩:=k2;exact ⟨bs',k3,k4,k5,l,rfl,k6⟩
        |ret=>exact k2
        |exit j=>exact k2
        |goto _=>exact k2
        |panic _=>exact k2
        |outgrown=>exact k2
      |ret=>exact absurd k fun x=>x
      |exit j=>exact absurd k fun x=>x
      |goto _=>exact absurd k fun x=>x
      |panic _=>exact absurd k fun x=>x
      |outgrown=>exact absurd k fun x=>x
  . rintro bs1 hl ⟨l,hl2,hJ⟩;have:l=[]:=List.map_eq_nil_iff.1 hl2.symm;subst this;exact hR _ _ (hk _ (hC f) bs1 hJ)
theorem re {n:Nat} {J:List Box->Prop} (f:F) (hJ:J (bs.take n)) (hn:n<=bs.length:=by simp only [lzA]<;>omega) (hb:F->zd1 n (bs.take n)=true:=by intro q;simp only [znb,zbl,zcv,reduceIte,ft,fw,iq,jz,idsA,idsB,zat,q]):RM n J hO Q0 .normal h1 (stL bs):=⟨bs,rfl,hn,hb f,hJ⟩
theorem xm {i:Nat} (k:R) (hR:R->Q1 (.exit i) h1 (stL bs):=by intro k;first | (simp (disch:=decide) only [onT,onTB,ymu,ja,zi0,cond_true,cond_false];exact k)|exact k):TW Try.prog (EE ax) [] N (.exit i) h1 (stL bs) Q1:=TW.exit (hR k)
theorem xq (k:R) (hR:R->Q1 .ret h1 (stL bs):=by intro k;first | (simp (disch:=decide) only [onT,onTB,yox];exact k)|exact k):TW Try.prog (EE ax) [] N .ret h1 (stL bs) Q1:=sf (hR k)
end
set_option maxHeartbeats 4000000 in
theorem zlf (ax:Axs) (hx:NoAx ax) (l:List Rule) (hl:l.length*201<=1000000000):Call Try.prog (EE ax) [] 32 [zae l] ts0 (.arr 0 23 0 l.length l.length (l.length*23)) (stL [.cells false (l.length*23) (vecC zaj l)]):=by
  refine Call.enter (fn:=Try.f32) 8 (hx.no _ (by decide)) (fn32 ax) rfl Try.ntmps32 (by decide) (by simp) (ir _) (by rfl) ?_;simp only [zno,zql,fw]
  cases l with
  |nil =>
    refine TW.lst0 0 23 (by omega) (by rfl) ?_ ?_
    . rw [zs3];apply fg;apply nm (zfg ax) [] []
      . kernel_rfl
      . simp (disch:=first|omega|decide | (simp only [lzA,fw,iq];done)|fail) only [b0,b1,b2,b3,b4,b5,b6,b7,b8,fw,ft,jg,reduceIte,reduceCtorEq,eqA,eqB,eqsA,eqsB,ti28 ax,el28,sr28,tNil,tBin,zca,zai,apA,tSrc,zar,zbh,zb7,zf5,zb4,gb,iy,zdp,zb1,zdo,zdr,zb3,zdq,nh,nw,md,ny];with_reducible rfl
      . exact trivial
      simp only [onT,onTB];repeat apply fg
      apply nm (zfg ax) [] []
      . kernel_rfl
      . simp (disch:=first|omega|decide | (simp only [lzA,fw,iq];done)|fail) only [b0,b1,b2,b3,b4,b5,b6,b7,b8,fw,ft,jg,reduceIte,reduceCtorEq,eqA,eqB,eqsA,eqsB,ti28 ax,el28,sr28,tNil,tBin,zca,zai,apA,tSrc,zar,zbh,zb7,zf5,zb4,gb,iy,zdp,zb1,zdo,zdr,zb3,zdq,nh,nw,md,ny];with_reducible rfl
      . exact trivial
      simp only [onT,onTB];refine sr (b:=true) ?_ ?_
      . simp only [zqd,zja,zlz,zbb,ft,reduceIte,gc]
      simp only [cond_true,cond_false];apply fg;apply nm (zfg ax) [] []
      . kernel_rfl
      . simp (disch:=first|omega|decide | (simp only [lzA,fw,iq];done)|fail) only [b0,b1,b2,b3,b4,b5,b6,b7,b8,fw,ft,jg,reduceIte,reduceCtorEq,eqA,eqB,eqsA,eqsB,ti28 ax,el28,sr28,tNil,tBin,zca,zai,apA,tSrc,zar,zbh,zb7,zf5,zb4,gb,iy,zdp,zb1,zdo,zdr,zb3,zdq,nh,nw,md,ny];with_reducible rfl
      . exact trivial
      simp only [onT,onTB];refine TW.vec 2 23 (by first|rfl | (simp only [zbb,ft,reduceIte];done)) ?_;rw [z0q];simp only [scB,fw];apply sf;exact ⟨.inr rfl,_,rfl,_,su _ _,zrc.one (by simp only [zbl,idsA,idsB,gc])⟩
    . rw [zs3];apply fg;apply nm (zfg ax) [] []
      . kernel_rfl
      . simp (disch:=first|omega|decide | (simp only [lzA,fw,iq];done)|fail) only [b0,b1,b2,b3,b4,b5,b6,b7,b8,fw,ft,jg,reduceIte,reduceCtorEq,eqA,eqB,eqsA,eqsB,ti28 ax,el28,sr28,tNil,tBin,zca,zai,apA,tSrc,zar,zbh,zb7,zf5,zb4,gb,iy,zdp,zb1,zdo,zdr,zb3,zdq,nh,nw,md,ny];with_reducible rfl
      . exact trivial
      simp only [onT,onTB];repeat apply fg
      apply nm (zfg ax) [] []
      . kernel_rfl
      . simp (disch:=first|omega|decide | (simp only [lzA,fw,iq];done)|fail) only [b0,b1,b2,b3,b4,b5,b6,b7,b8,fw,ft,jg,reduceIte,reduceCtorEq,eqA,eqB,eqsA,eqsB,ti28 ax,el28,sr28,tNil,tBin,zca,zai,apA,tSrc,zar,zbh,zb7,zf5,zb4,gb,iy,zdp,zb1,zdo,zdr,zb3,zdq,nh,nw,md,ny];with_reducible rfl
      . exact trivial
      simp only [onT,onTB];refine sr (b:=false) ?_ ?_
      . simp only [zqd,zja,zlz,zbb,ft,reduceIte,rz,gc]
      simp only [cond_true,cond_false];apply TW.skip;simp only [onT,onTB];apply fg;apply nm (zfg ax) [5] []
      . kernel_rfl
      . simp (disch:=first|omega|decide | (simp only [lzA,fw,iq];done)|fail) only [b0,b1,b2,b3,b4,b5,b6,b7,b8,fw,ft,jg,reduceIte,reduceCtorEq,eqA,eqB,eqsA,eqsB,ti28 ax,el28,sr28,tNil,tBin,zca,zai,apA,tSrc,zar,zbh,zb7,zf5,zb4,gb,iy,zdp,zb1,zdo,zdr,zb3,zdq,nh,nw,md,ny];with_reducible rfl
      . exact trivial
      simp only [onT,onTB];refine TW.unz 0 (by rfl) ?_;rw [zec _ _ _ (by simp only [lzA]<;>omega)];simp only [scA];apply sf;exact ⟨.inr rfl,_,rfl,_,su _ _,zrc.one (by simp only [zbl,idsA,idsB,gc])⟩
  |cons x r =>
    have hn:∀ S:TS,tNil S (.slice 59) (T.lst 23 ((x :: r).map zaj))=some false:=fun _=>rfl;have hn0:∀ S:TS,tNil S (.slice 59) .nils=some true:=fun _=>rfl;have hb0:h9 (x :: r).length 0=false:=rfl;have hb1:ic 0 (x :: r).length=true:=rfl;generalize x :: r=L at hl hn hb0 hb1 ⊢;rw [zs3];apply fg;apply nm (zfg ax) [] []
    . kernel_rfl
    . simp (disch:=first|omega|decide | (simp only [lzA,fw,iq];done)|fail) only [b0,b1,b2,b3,b4,b5,b6,b7,b8,fw,ft,jg,reduceIte,reduceCtorEq,eqA,eqB,eqsA,eqsB,ti28 ax,el28,sr28,tBin,zca,zai,apA,tSrc,zar,zbh,zb7,zf5,zb4,gb,iy,zdp,zb1,zdo,zdr,zb3,zdq,nh,nw,md,ny,zgg zaj L,zbt (f:=zaj) (e:=23) (fun x=>zau x) L,zet (f:=zaj) (fun x=>zio x) L,hn,hn0,hb0,hb1,cond_true,cond_false];with_reducible rfl
    . exact trivial
    simp only [onT,onTB];repeat apply fg
    apply nm (zfg ax) [] []
    . kernel_rfl
    . simp (disch:=first|omega|decide | (simp only [lzA,fw,iq];done)|fail) only [b0,b1,b2,b3,b4,b5,b6,b7,b8,fw,ft,jg,reduceIte,reduceCtorEq,eqA,eqB,eqsA,eqsB,ti28 ax,el28,sr28,tBin,zca,zai,apA,tSrc,zar,zbh,zb7,zf5,zb4,gb,iy,zdp,zb1,zdo,zdr,zb3,zdq,nh,nw,md,ny,zgg zaj L,zbt (f:=zaj) (e:=23) (fun x=>zau x) L,zet (f:=zaj) (fun x=>zio x) L,hn,hn0,hb0,hb1,cond_true,cond_false];with_reducible rfl
    . exact trivial
    simp only [onT,onTB];refine sr (b:=false) ?_ ?_
    . simp only [zqd,zja,zlz,zbb,ft,reduceIte,rz,gc]
    simp only [cond_true,cond_false];apply TW.skip;simp only [onT,onTB];apply fg;apply nm (zfg ax) [5] []
    . kernel_rfl
    . simp (disch:=first|omega|decide | (simp only [lzA,fw,iq];done)|fail) only [b0,b1,b2,b3,b4,b5,b6,b7,b8,fw,ft,jg,reduceIte,reduceCtorEq,eqA,eqB,eqsA,eqsB,ti28 ax,el28,sr28,tBin,zca,zai,apA,tSrc,zar,zbh,zb7,zf5,zb4,gb,iy,zdp,zb1,zdo,zdr,zb3,zdq,nh,nw,md,ny,zgg zaj L,zbt (f:=zaj) (e:=23) (fun x=>zau x) L,zet (f:=zaj) (fun x=>zio x) L,hn,hn0,hb0,hb1,cond_true,cond_false];with_reducible rfl
    . exact trivial
    simp only [onT,onTB];apply sf;exact ⟨.inr rfl,_,rfl,_,su _ _,zrc.one (by simp only [zbl,idsA,idsB,gc])⟩
def zbn (k:Nat) (s1:List Rule) (s2:List Rule) (eq:Rule->Rule->Option Bool):Nat->Int->Option (Bool ⊕ Unit)
 |0,_=>none
 |m+1,i=>(if i<(s1.length:Int) then (if 0<=i/\i<(s1.length:Int) then (if 0<=i/\i<(s2.length:Int) then ((eq (⟨(gx s1 i).prio,((gx s1 i).mat),(gx s1 i).step,(gx s1 i).outs⟩:Rule) (⟨(gx s2 i).prio,((gx s2 i).mat),(gx s2 i).step,(gx s2 i).outs⟩:Rule)).bind fun r=>(if r=true then zbn k s1 s2 eq m (fi.wrap (i+1)) else some (.inl false))) else none) else none) else some (.inr ()))
def zfe (k:Nat) (s1:List Rule) (s2:List Rule) (eq:Rule->Rule->Option Bool):Option Bool:=(if (s1.length:Int)≠(s2.length:Int) then some false else ((zbn k s1 s2 eq k 0:Option (Bool ⊕ Unit)).bind fun o=>ks (fun r=>some r) (fun s_=>some true) o))
theorem zke (ax:Axs) (hx:NoAx ax) (k:Nat) (s1:List Rule) (s2:List Rule) (eq:Rule->Rule->Option Bool) (v:Bool) (H:zfe k s1 s2 eq=some v) (eq_f:Nat) (eq_c:List T) (eq_i:kb 0 eq_c=true) (eq_h:∀ (y0:Rule) (y1:Rule) (w:Bool),eq y0 y1=some w->Pure Try.prog (EE ax) [] eq_f ([]++[zaj y0,zaj y1]++eq_c) (.bool w)):Pure Try.prog (EE ax) [] 63 [zae s1,zae s2,.fn eq_f [] eq_c] (.bool v):=by
 rw [zfe] at H;refine en (ha:=by simp only [zbl,zcv,idsA,idsB,eq_i,gc]) [.tmp 6] 32 [0,1,2] (hx.no _ (by decide)) (fn63 ax) ?_;intro h hh;apply fg;refine rk [0,1,2] [] hh fun h hh=>?_;repeat apply fg
 refine rk [0,1,2,14] [] hh fun h hh=>?_;rcases isp H with ⟨c1,H⟩|⟨c1,H⟩;rotate_left
 .skip;refine cf (f2 hh (zAb c1)) ?_;refine sk ?_;repeat apply fg
  refine rk [1,2,15,16,17] [] hh fun h hh=>?_;obtain ⟨o,H1,H⟩:=zab H;refine cu [] 0 (fun h bs=>∃ s_:Unit,o=.inr s_/\(True)/\bs=[]) ?_ ?_
  .skip;apply gl;refine jj [1,2,15,16,17] (fun m h bs=>∃ (i:Int),zbn k s1 s2 eq m i=some o/\(h 1=zae s2/\h 2=.fn eq_f [] eq_c/\h 15=zae s1/\h 16=.int .i64 (s1.length:Int)/\h 17=.int .i64 i)/\bs=[]) ?_ k _ _ ?_;rotate_left
   .exact ⟨0,H1,kq hh,rfl⟩
   clear hh h H1;rintro m h bs ⟨i,H1,hh,rfl⟩;rcases m with _|m
   .rw [zbn] at H1;cases H1
   rw [zbn] at H1;apply fg;refine rk [1,2,15,16,17,18] [] hh fun h hh=>?_;rcases isp H1 with ⟨c2,H1⟩|⟨c2,H1⟩;rotate_left
   .skip;apply fg;refine cf (f2 hh (zAb c2)) ?_;refine xk ?_;cases H1;exact ce (f2 hh ((fun m=>zf0 (ir m) eq_i))) ⟨_,rfl,kq hh,rfl⟩
   apply fg;refine ct (f2 hh (zAa c2)) ?_;refine sk ?_;apply fg;apply gl;obtain ⟨g3,H1⟩:=isg H1;apply fg;refine rk [1,2,7,8,15,16,17] [] (f2 hh (zag g3)) fun h hh=>?_;obtain ⟨g4,H1⟩:=isg H1;apply fg;refine rk [1,2,8,9,15,16,17] [] (f2 hh (zag g4)) fun h hh=>?_;obtain ⟨r,e5,H1⟩:=zab H1;apply fg;refine rkp [1,2,15,16,17,30] [] [.bool r] hh ?_ ?_
   .exact ⟨gd ((eq_h (⟨(gx s1 i).prio,((gx s1 i).mat),(gx s1 i).step,(gx s1 i).outs⟩:Rule) (⟨(gx s2 i).prio,((gx s2 i).mat),(gx s2 i).step,(gx s2 i).outs⟩:Rule) r e5).call _),trivial⟩
   clear hh h;intro h hh;rcases isb H1 with ⟨c6,H1⟩|⟨c6,H1⟩;rotate_left
   .skip;refine ct (f2 hh c6) ?_;apply fg;refine rk [6] [] (f2 hh c6) fun h hh=>?_;cases H1;obtain rfl:=sinl H;exact rt hh
   refine cf (f2 hh c6) ?_;refine sk ?_;refine rk [1,2,15,16,17] [] (f2 hh c6) fun h hh=>?_;exact rd m (f2 hh ((fun m=>zf0 (ir m) eq_i))) ⟨(fi.wrap (i+1)),H1,kq hh,rfl⟩
  clear hh h;rintro h bs ⟨s_,rfl,hh,rfl⟩;replace H:=sinr H;apply fg;refine rk [6] [] hh fun h hh=>?_;cases H;exact rt hh
 refine ct (f2 hh (zAa c1)) ?_;apply fg;refine rk [6] [] hh fun h hh=>?_;cases H;exact rt hh
def zay (k:Nat) (s1:List (List Alt)) (s2:List (List Alt)) (eq:(List Alt)->(List Alt)->Option Bool):Nat->Int->Option (Bool ⊕ Unit)
 |0,_=>none
 |m+1,i=>(if i<(s1.length:Int) then (if 0<=i/\i<(s1.length:Int) then (if 0<=i/\i<(s2.length:Int) then ((eq (gx s1 i) (gx s2 i)).bind fun r=>(if r=true then zay k s1 s2 eq m (fi.wrap (i+1)) else some (.inl false))) else none) else none) else some (.inr ()))
def zci (k:Nat) (s1:List (List Alt)) (s2:List (List Alt)) (eq:(List Alt)->(List Alt)->Option Bool):Option Bool:=(if (s1.length:Int)≠(s2.length:Int) then some false else ((zay k s1 s2 eq k 0:Option (Bool ⊕ Unit)).bind fun o=>ks (fun r=>some r) (fun s_=>some true) o))
theorem zkf (ax:Axs) (hx:NoAx ax) (k:Nat) (s1:List (List Alt)) (s2:List (List Alt)) (eq:(List Alt)->(List Alt)->Option Bool) (v:Bool) (H:zci k s1 s2 eq=some v) (eq_f:Nat) (eq_c:List T) (eq_i:kb 0 eq_c=true) (eq_h:∀ (y0:List Alt) (y1:List Alt) (w:Bool),eq y0 y1=some w->Pure Try.prog (EE ax) [] eq_f ([]++[lAlt y0,lAlt y1]++eq_c) (.bool w)):Pure Try.prog (EE ax) [] 83 [za3 s1,za3 s2,.fn eq_f [] eq_c] (.bool v):=by
 rw [zci] at H;refine en (ha:=by simp only [zbl,zcv,idsA,idsB,eq_i,gc]) [.tmp 6] 32 [0,1,2] (hx.no _ (by decide)) (fn83 ax) ?_;intro h hh;apply fg;refine rk [0,1,2] [] hh fun h hh=>?_;repeat apply fg
 refine rk [0,1,2,14] [] hh fun h hh=>?_;rcases isp H with ⟨c1,H⟩|⟨c1,H⟩;rotate_left
 .skip;refine cf (f2 hh (zAb c1)) ?_;refine sk ?_;repeat apply fg
  refine rk [1,2,15,16,17] [] hh fun h hh=>?_;obtain ⟨o,H1,H⟩:=zab H;refine cu [] 0 (fun h bs=>∃ s_:Unit,o=.inr s_/\(True)/\bs=[]) ?_ ?_
  .skip;apply gl;refine jj [1,2,15,16,17] (fun m h bs=>∃ (i:Int),zay k s1 s2 eq m i=some o/\(h 1=za3 s2/\h 2=.fn eq_f [] eq_c/\h 15=za3 s1/\h 16=.int .i64 (s1.length:Int)/\h 17=.int .i64 i)/\bs=[]) ?_ k _ _ ?_;rotate_left
   .exact ⟨0,H1,kq hh,rfl⟩
   clear hh h H1;rintro m h bs ⟨i,H1,hh,rfl⟩;rcases m with _|m
   .rw [zay] at H1;cases H1
   rw [zay] at H1;apply fg;refine rk [1,2,15,16,17,18] [] hh fun h hh=>?_;rcases isp H1 with ⟨c2,H1⟩|⟨c2,H1⟩;rotate_left
   .skip;apply fg;refine cf (f2 hh (zAb c2)) ?_;refine xk ?_;cases H1;exact ce (f2 hh ((fun m=>zf0 (ir m) eq_i))) ⟨_,rfl,kq hh,rfl⟩
   apply fg;refine ct (f2 hh (zAa c2)) ?_;refine sk ?_;apply fg;apply gl;obtain ⟨g3,H1⟩:=isg H1;apply fg;refine rk [1,2,7,8,15,16,17] [] (f2 hh (zag g3)) fun h hh=>?_;obtain ⟨g4,H1⟩:=isg H1;apply fg;refine rk [1,2,8,9,15,16,17] [] (f2 hh (zag g4)) fun h hh=>?_;obtain ⟨r,e5,H1⟩:=zab H1;apply fg;refine rkp [1,2,15,16,17,30] [] [.bool r] hh ?_ ?_
   .exact ⟨gd ((eq_h (gx s1 i) (gx s2 i) r e5).call _),trivial⟩
   clear hh h;intro h hh;rcases isb H1 with ⟨c6,H1⟩|⟨c6,H1⟩;rotate_left
   .skip;refine ct (f2 hh c6) ?_;apply fg;refine rk [6] [] (f2 hh c6) fun h hh=>?_;cases H1;obtain rfl:=sinl H;exact rt hh
   refine cf (f2 hh c6) ?_;refine sk ?_;refine rk [1,2,15,16,17] [] (f2 hh c6) fun h hh=>?_;exact rd m (f2 hh ((fun m=>zf0 (ir m) eq_i))) ⟨(fi.wrap (i+1)),H1,kq hh,rfl⟩
  clear hh h;rintro h bs ⟨s_,rfl,hh,rfl⟩;replace H:=sinr H;apply fg;refine rk [6] [] hh fun h hh=>?_;cases H;exact rt hh
 refine ct (f2 hh (zAa c1)) ?_;apply fg;refine rk [6] [] hh fun h hh=>?_;cases H;exact rt hh
def zba (k:Nat) (s1:List Alt) (s2:List Alt):Nat->Int->Option (Bool ⊕ Unit)
 |0,_=>none
 |m+1,i=>(if i<(s1.length:Int) then (if 0<=i/\i<(s1.length:Int) then (if 0<=i/\i<(s2.length:Int) then (if (gx s1 i)=(gx s2 i) then zba k s1 s2 m (fi.wrap (i+1)) else some (.inl false)) else none) else none) else some (.inr ()))
def zef (k:Nat) (s1:List Alt) (s2:List Alt):Option Bool:=(if (s1.length:Int)≠(s2.length:Int) then some false else ((zba k s1 s2 k 0:Option (Bool ⊕ Unit)).bind fun o=>ks (fun r=>some r) (fun s_=>some true) o))
theorem zod (ax:Axs) (hx:NoAx ax) (k:Nat) (s1:List Alt) (s2:List Alt) (v:Bool) (H:zef k s1 s2=some v):Pure Try.prog (EE ax) [] 85 [lAlt s1,lAlt s2] (.bool v):=by
 rw [zef] at H;refine en [.tmp 4] 26 [0,1] (hx.no _ (by decide)) (fn85 ax) ?_;intro h hh;apply fg;refine rk [0,1] [] hh fun h hh=>?_;repeat apply fg
 refine rk [0,1,10] [] hh fun h hh=>?_;rcases isp H with ⟨c1,H⟩|⟨c1,H⟩;rotate_left
 .skip;refine cf (f2 hh (zAb c1)) ?_;refine sk ?_;repeat apply fg
  refine rk [0,1,12,13] [] hh fun h hh=>?_;obtain ⟨o,H1,H⟩:=zab H;refine cu [] 0 (fun h bs=>∃ s_:Unit,o=.inr s_/\(True)/\bs=[]) ?_ ?_
  .skip;apply gl;refine jj [0,1,12,13] (fun m h bs=>∃ (i:Int),zba k s1 s2 m i=some o/\(h 0=lAlt s1/\h 1=lAlt s2/\h 12=.int .i64 (s1.length:Int)/\h 13=.int .i64 i)/\bs=[]) ?_ k _ _ ?_;rotate_left
   .exact ⟨0,H1,kq hh,rfl⟩
   clear hh h H1;rintro m h bs ⟨i,H1,hh,rfl⟩;rcases m with _|m
   .rw [zba] at H1;cases H1
   rw [zba] at H1;apply fg;refine rk [0,1,12,13,14] [] hh fun h hh=>?_;rcases isp H1 with ⟨c2,H1⟩|⟨c2,H1⟩;rotate_left
   .skip;apply fg;refine cf (f2 hh (zAb c2)) ?_;refine xk ?_;cases H1;exact ce hh ⟨_,rfl,kq hh,rfl⟩
   apply fg;refine ct (f2 hh (zAa c2)) ?_;refine sk ?_;apply fg;apply gl;apply fg;refine rk [0,1,5,12,13] [] hh fun h hh=>?_;obtain ⟨g3,H1⟩:=isg H1;obtain ⟨g4,H1⟩:=isg H1;apply fg;refine dk 8 [0,1,12,13,24] [] [] [] (f3 hh (zag g3) (f2 (zag g4) ((aq86 ax (gx s1 i) (gx s2 i)).2))) trivial trivial fun h hh=>?_;rcases isp H1 with ⟨c5,H1⟩|⟨c5,H1⟩;rotate_left
   .skip;refine ct (f2 hh (zAb c5)) ?_;apply fg;refine rk [4] [] hh fun h hh=>?_;cases H1;obtain rfl:=sinl H;exact rt hh
   refine cf (f2 hh (zAa c5)) ?_;refine sk ?_;refine rk [0,1,12,13] [] hh fun h hh=>?_;exact rd m hh ⟨(fi.wrap (i+1)),H1,kq hh,rfl⟩
  clear hh h;rintro h bs ⟨s_,rfl,hh,rfl⟩;replace H:=sinr H;apply fg;refine rk [4] [] hh fun h hh=>?_;cases H;exact rt hh
 refine ct (f2 hh (zAa c1)) ?_;apply fg;refine rk [4] [] hh fun h hh=>?_;cases H;exact rt hh
def zgq (k:Nat) (x:List Alt) (y:List Alt):Option Bool:=((zef k x y).bind fun dq=>some dq)
theorem zk0 (ax:Axs) (hx:NoAx ax) (k:Nat) (x:List Alt) (y:List Alt) (v:Bool) (H:zgq k x y=some v):Pure Try.prog (EE ax) [] 84 [lAlt x,lAlt y] (.bool v):=by
 rw [zgq] at H;refine en [.tmp 4] 8 [0,1] (hx.no _ (by decide)) (fn84 ax) ?_;intro h hh;apply fg;refine rk [0,1] [] hh fun h hh=>?_;obtain ⟨dq,e1,H⟩:=zab H;apply fg;refine rkp [4] [] [.bool dq] hh ?_ ?_
 .exact ⟨gd ((zod ax hx k x y dq e1 ).call _),trivial⟩
 clear hh h;intro h hh;cases H;exact rt hh
def zg9 (k:Nat) (a:Rule) (b:Rule):Option Bool:=(if a.step=b.step then ((zci k a.outs b.outs (fun y y2=>zgq k y y2)).bind fun du=>some du) else some false)
theorem zmp (ax:Axs) (hx:NoAx ax) (k:Nat) (a:Rule) (b:Rule) (v:Bool) (H:zg9 k a b=some v):Pure Try.prog (EE ax) [] 70 [zaj a,zaj b] (.bool v):=by
 rw [zg9] at H;refine en [.tmp 4] 17 [0,1] (hx.no _ (by decide)) (fn70 ax) ?_;intro h hh;apply fg;refine rk [2,3] [] hh fun h hh=>?_;rcases isp H with ⟨c1,H⟩|⟨c1,H⟩;rotate_left
 .skip;apply fg;refine rk [4] [] (f2 hh (zAb c1)) fun h hh=>?_;cases H;exact rt hh
 obtain ⟨du,e2,H⟩:=zab H;apply fg;refine rkp [4] [] [.bool du] (f2 hh (zAa c1)) ?_ ?_
 .exact ⟨gd ((zkf ax hx k a.outs b.outs (fun y y2=>zgq k y y2) du e2 84 [] (by simp only [zbl,zcv,idsA,idsB,gc]) (fun y y2 w hw=>by first|exact zk0 ax hx k y y2 w hw|exact (zk0 ax hx k y y2 w hw))).call _),trivial⟩
 clear hh h;intro h hh;cases H;exact rt hh
def zdh (k:Nat) (a:Rule) (b:Rule):Option Bool:=(if a.prio=b.prio then (if a.mat=b.mat then ((zg9 k a b).bind fun am=>some am) else some false) else some false)
theorem zhg (ax:Axs) (hx:NoAx ax) (k:Nat) (a:Rule) (b:Rule) (v:Bool) (H:zdh k a b=some v):Pure Try.prog (EE ax) [] 54 [zaj a,zaj b] (.bool v):=by
 rw [zdh] at H;refine en [.tmp 4] 22 [0,1] (hx.no _ (by decide)) (fn54 ax) ?_;intro h hh;apply fg;refine rk [2,3] [] hh fun h hh=>?_;rcases isp H with ⟨c1,H⟩|⟨c1,H⟩;rotate_left
 .skip;apply fg;refine rk [4] [] (f2 hh (zAb c1)) fun h hh=>?_;cases H;exact rt hh
 rcases isp H with ⟨c2,H⟩|⟨c2,H⟩;rotate_left
 .skip;apply fg;refine rk [4] [] (f3 hh (zAa c1) (f2 (zAb c2) ((aq56 ax a.mat b.mat).1))) fun h hh=>?_;cases H;exact rt hh
 obtain ⟨am,e3,H⟩:=zab H;apply fg;refine rkp [4] [] [.bool am] (f3 hh (zAa c1) (f2 (zAa c2) ((aq56 ax a.mat b.mat).1))) ?_ ?_
 .exact ⟨gd ((zmp ax hx k a b am e3 ).call _),trivial⟩
 clear hh h;intro h hh;cases H;exact rt hh
def zon (k:Nat) (t:List Rule) (u:List Rule):Option Bool:=((zfe k t u (fun y y2=>zdh k y y2)).bind fun dv=>some dv)
theorem zvo (ax:Axs) (hx:NoAx ax) (k:Nat) (t:List Rule) (u:List Rule) (v:Bool) (H:zon k t u=some v):Pure Try.prog (EE ax) [] 39 [zae t,zae u] (.bool v):=by
 rw [zon] at H;refine en [.tmp 4] 8 [0,1] (hx.no _ (by decide)) (fn39 ax) ?_;intro h hh;apply fg;refine rk [0,1] [] hh fun h hh=>?_;obtain ⟨dv,e1,H⟩:=zab H;apply fg;refine rkp [4] [] [.bool dv] hh ?_ ?_
 .exact ⟨gd ((zke ax hx k t u (fun y y2=>zdh k y y2) dv e1 54 [] (by simp only [zbl,zcv,idsA,idsB,gc]) (fun y y2 w hw=>by first|exact zhg ax hx k y y2 w hw|exact (zhg ax hx k y y2 w hw))).call _),trivial⟩
 clear hh h;intro h hh;cases H;exact rt hh
def zcb (k:Nat) (a:Rule) (b:Rule) (k_:Int):Nat->Int->Option (Bool ⊕ Unit)
 |0,_=>none
 |m+1,i=>(if i<((gx a.outs k_).length:Int) then (if 0<=i/\i<((gx a.outs k_).length:Int) then (if 0<=i/\i<((gx b.outs k_).length:Int) then (if (gx (gx a.outs k_) i)=(gx (gx b.outs k_) i) then zcb k a b k_ m (fi.wrap (i+1)) else some (.inl false)) else none) else none) else some (.inr ()))
def zcc (k:Nat) (a:Rule) (b:Rule):Nat->Int->Option (Bool ⊕ Unit)
 |0,_=>none
 |m+1,k_=>(if k_<(a.outs.length:Int) then (((if 0<=k_/\k_<(a.outs.length:Int) then (if 0<=k_/\k_<(b.outs.length:Int) then (if ((gx a.outs k_).length:Int)≠((gx b.outs k_).length:Int) then some (.inl false) else ((zcb k a b k_ k 0:Option (Bool ⊕ Unit)).bind fun o=>ks (fun r=>some (.inl r)) (fun s_3=>some (.inr ())) o)) else none) else none):Option (Bool ⊕ Unit)).bind fun o2=>ks (fun r=>some (.inl r)) (fun s_2=>zcc k a b m (fi.wrap (k_+1))) o2) else some (.inr ()))
def zhi (k:Nat) (a:Rule) (b:Rule):Option Bool:=(if (a.outs.length:Int)≠(b.outs.length:Int) then some false else ((zcc k a b k 0:Option (Bool ⊕ Unit)).bind fun o3=>ks (fun r=>some r) (fun s_=>some true) o3))
theorem zr6 (ax:Axs) (hx:NoAx ax) (k:Nat) (a:Rule) (b:Rule) (v:Bool) (H:zhi k a b=some v):Pure Try.prog (EE ax) [] 64 [zaj a,zaj b] (.bool v):=by
 rw [zhi] at H;refine en [.tmp 4] 61 [0,1] (hx.no _ (by decide)) (fn64 ax) ?_;intro h hh;apply fg;refine rk [2,3] [] hh fun h hh=>?_;repeat apply fg
 refine rk [2,3,13] [] hh fun h hh=>?_;rcases isp H with ⟨c1,H⟩|⟨c1,H⟩;rotate_left
 .skip;refine cf (f2 hh (zAb c1)) ?_;refine sk ?_;repeat apply fg
  refine rk [2,3,5] [] hh fun h hh=>?_;obtain ⟨o3,H1,H⟩:=zab H;refine cu [] 2 (fun h bs=>∃ s_:Unit,o3=.inr s_/\(True)/\bs=[.cells true 23 (fh .i64 a.prio :: (a.mat.mask.l.map (fh .i64)++(a.mat.bits.l.map (fh .i64)++[fh .i64 a.step,za3 a.outs]))),.cells true 23 (fh .i64 b.prio :: (b.mat.mask.l.map (fh .i64)++(b.mat.bits.l.map (fh .i64)++[fh .i64 b.step,za3 b.outs])))]) ?_ ?_
  .skip;apply gl;refine jj [2,3,5] (fun m h bs=>∃ (k_:Int),zcc k a b m k_=some o3/\(h 2=.ptr 0 0 23/\h 3=.ptr 1 0 23/\h 5=.int .i64 k_)/\bs=[.cells true 23 (fh .i64 a.prio :: (a.mat.mask.l.map (fh .i64)++(a.mat.bits.l.map (fh .i64)++[fh .i64 a.step,za3 a.outs]))),.cells true 23 (fh .i64 b.prio :: (b.mat.mask.l.map (fh .i64)++(b.mat.bits.l.map (fh .i64)++[fh .i64 b.step,za3 b.outs])))]) ?_ k _ _ ?_;rotate_left
   .exact ⟨0,H1,kq hh,rfl⟩
   clear hh h H1;rintro m h bs ⟨k_,H1,hh,rfl⟩;rcases m with _|m
   .rw [zcc] at H1;cases H1
   rw [zcc] at H1;repeat apply fg
   refine rk [2,3,5,18] [] hh fun h hh=>?_;rcases isp H1 with ⟨c2,H1⟩|⟨c2,H1⟩;rotate_left
   .skip;refine cf (f2 hh (zAb c2)) ?_;refine xk ?_;cases H1;exact ce hh ⟨_,rfl,kq hh,rfl⟩
   refine ct (f2 hh (zAa c2)) ?_;refine sk ?_;obtain ⟨o2,H2,H1⟩:=zab H1;apply fg;refine cu [2,3,5] 2 (fun h bs=>∃ s_2:Unit,o2=.inr s_2/\(h 2=.ptr 0 0 23/\h 3=.ptr 1 0 23/\h 5=.int .i64 k_)/\bs=[.cells true 23 (fh .i64 a.prio :: (a.mat.mask.l.map (fh .i64)++(a.mat.bits.l.map (fh .i64)++[fh .i64 a.step,za3 a.outs]))),.cells true 23 (fh .i64 b.prio :: (b.mat.mask.l.map (fh .i64)++(b.mat.bits.l.map (fh .i64)++[fh .i64 b.step,za3 b.outs])))]) ?_ ?_
   .skip;apply gl;obtain ⟨g3,H2⟩:=isg H2;obtain ⟨g4,H2⟩:=isg H2;repeat apply fg
    refine dk 12 [2,3,5,33] [] [] [] (f3 hh (zag g3) (zag g4)) trivial trivial fun h hh=>?_;rcases isp H2 with ⟨c5,H2⟩|⟨c5,H2⟩;rotate_left
    .skip;refine cf (f2 hh (zAb c5)) ?_;refine sk ?_;apply fg;refine rk [2,3,5,6] [] hh fun h hh=>?_;obtain ⟨o,H3,H2⟩:=zab H2;refine cu [2,3,5] 2 (fun h bs=>∃ s_3:Unit,o=.inr s_3/\(h 2=.ptr 0 0 23/\h 3=.ptr 1 0 23/\h 5=.int .i64 k_)/\bs=[.cells true 23 (fh .i64 a.prio :: (a.mat.mask.l.map (fh .i64)++(a.mat.bits.l.map (fh .i64)++[fh .i64 a.step,za3 a.outs]))),.cells true 23 (fh .i64 b.prio :: (b.mat.mask.l.map (fh .i64)++(b.mat.bits.l.map (fh .i64)++[fh .i64 b.step,za3 b.outs])))]) ?_ ?_
     .skip;apply gl;refine jj [2,3,5,6] (fun m h bs=>∃ (i:Int),zcb k a b k_ m i=some o/\(h 2=.ptr 0 0 23/\h 3=.ptr 1 0 23/\h 5=.int .i64 k_/\h 6=.int .i64 i)/\bs=[.cells true 23 (fh .i64 a.prio :: (a.mat.mask.l.map (fh .i64)++(a.mat.bits.l.map (fh .i64)++[fh .i64 a.step,za3 a.outs]))),.cells true 23 (fh .i64 b.prio :: (b.mat.mask.l.map (fh .i64)++(b.mat.bits.l.map (fh .i64)++[fh .i64 b.step,za3 b.outs])))]) ?_ k _ _ ?_;rotate_left
      .exact ⟨0,H3,kq hh,rfl⟩
      clear hh h H3;rintro m h bs ⟨i,H3,hh,rfl⟩;rcases m with _|m
      .rw [zcb] at H3;cases H3
      rw [zcb] at H3;repeat apply fg
      refine rk [2,3,5,6,41] [] (f2 hh (zag g3)) fun h hh=>?_;rcases isp H3 with ⟨c6,H3⟩|⟨c6,H3⟩;rotate_left
      .skip;refine cf (f2 hh (zAb c6)) ?_;refine xk ?_;cases H3;exact ce hh ⟨_,rfl,kq hh,rfl⟩
      refine ct (f2 hh (zAa c6)) ?_;refine sk ?_;apply fg;apply gl;obtain ⟨g7,H3⟩:=isg H3;obtain ⟨g8,H3⟩:=isg H3;apply fg;refine dk 16 [2,3,5,6,60] [] [] [] (f3 hh (zag g3) (f3 (zag g7) (zag g4) (f2 (zag g8) ((aq86 ax (gx (gx a.outs k_) i) (gx (gx b.outs k_) i)).2)))) trivial trivial fun h hh=>?_;rcases isp H3 with ⟨c9,H3⟩|⟨c9,H3⟩;rotate_left
      .skip;refine ct (f2 hh (zAb c9)) ?_;apply fg;refine rk [4] [] hh fun h hh=>?_;cases H3;obtain rfl:=sinm H2;obtain rfl:=sinm H1;obtain rfl:=sinl H;exact rt hh
      refine cf (f2 hh (zAa c9)) ?_;refine sk ?_;refine rk [2,3,5,6] [] hh fun h hh=>?_;exact rd m hh ⟨(fi.wrap (i+1)),H3,kq hh,rfl⟩
     clear hh h;rintro h bs ⟨s_3,rfl,hh,rfl⟩;replace H2:=sinr H2;cases H2;exact ce hh ⟨_,rfl,kq hh,rfl⟩
    refine ct (f2 hh (zAa c5)) ?_;apply fg;refine rk [4] [] hh fun h hh=>?_;cases H2;obtain rfl:=sinm H1;obtain rfl:=sinl H;exact rt hh
   clear hh h;rintro h bs ⟨s_2,rfl,hh,rfl⟩;replace H1:=sinr H1;refine rk [2,3,5] [] hh fun h hh=>?_;exact rd m hh ⟨(fi.wrap (k_+1)),H1,kq hh,rfl⟩
  clear hh h;rintro h bs ⟨s_,rfl,hh,rfl⟩;replace H:=sinr H;apply fg;refine rk [4] [] hh fun h hh=>?_;cases H;exact rt hh
 refine ct (f2 hh (zAa c1)) ?_;apply fg;refine rk [4] [] hh fun h hh=>?_;cases H;exact rt hh
def zje (k:Nat) (a:Rule) (b:Rule):Option Bool:=(if a.step=b.step then ((zhi k a b).bind fun dw=>some dw) else some false)
theorem zpa (ax:Axs) (hx:NoAx ax) (k:Nat) (a:Rule) (b:Rule) (v:Bool) (H:zje k a b=some v):Pure Try.prog (EE ax) [] 41 [zaj a,zaj b] (.bool v):=by
 rw [zje] at H;refine en [.tmp 4] 15 [0,1] (hx.no _ (by decide)) (fn41 ax) ?_;intro h hh;apply fg;refine rk [2,3] [] hh fun h hh=>?_;rcases isp H with ⟨c1,H⟩|⟨c1,H⟩;rotate_left
 .skip;apply fg;refine rk [4] [] (f2 hh (zAb c1)) fun h hh=>?_;cases H;exact rt hh
 obtain ⟨dw,e2,H⟩:=zab H;apply fg;refine rkp [4] [] [.bool dw] (f2 hh (zAa c1)) ?_ ?_
 .exact ⟨gd ((zr6 ax hx k a b dw e2 ).call _),trivial⟩
 clear hh h;intro h hh;cases H;exact rt hh
def zf9 (k:Nat) (a:Rule) (b:Rule):Option Bool:=(if a.prio=b.prio then (if a.mat=b.mat then ((zje k a b).bind fun am=>some am) else some false) else some false)
theorem zl7 (ax:Axs) (hx:NoAx ax) (k:Nat) (a:Rule) (b:Rule) (v:Bool) (H:zf9 k a b=some v):Pure Try.prog (EE ax) [] 26 [zaj a,zaj b] (.bool v):=by
 rw [zf9] at H;refine en [.tmp 4] 22 [0,1] (hx.no _ (by decide)) (fn26 ax) ?_;intro h hh;apply fg;refine rk [2,3] [] hh fun h hh=>?_;rcases isp H with ⟨c1,H⟩|⟨c1,H⟩;rotate_left
 .skip;apply fg;refine rk [4] [] (f2 hh (zAb c1)) fun h hh=>?_;cases H;exact rt hh
 rcases isp H with ⟨c2,H⟩|⟨c2,H⟩;rotate_left
 .skip;apply fg;refine rk [4] [] (f3 hh (zAa c1) (f2 (zAb c2) ((aq56 ax a.mat b.mat).1))) fun h hh=>?_;cases H;exact rt hh
 obtain ⟨am,e3,H⟩:=zab H;apply fg;refine rkp [4] [] [.bool am] (f3 hh (zAa c1) (f2 (zAa c2) ((aq56 ax a.mat b.mat).1))) ?_ ?_
 .exact ⟨gd ((zpa ax hx k a b am e3 ).call _),trivial⟩
 clear hh h;intro h hh;cases H;exact rt hh
def zel (k:Nat) (t:List Rule) (u:List Rule):Nat->Int->Option (Bool ⊕ Unit)
 |0,_=>none
 |m+1,k_=>(if k_<(t.length:Int) then (if 0<=k_/\k_<(t.length:Int) then (if 0<=k_/\k_<(u.length:Int) then ((zf9 k (gx t k_) (gx u k_)).bind fun bg=>(if bg=true then zel k t u m (fi.wrap (k_+1)) else some (.inl false))) else none) else none) else some (.inr ()))
def zk4 (k:Nat) (t:List Rule) (u:List Rule):Option Bool:=(if (t.length:Int)≠(u.length:Int) then some false else ((zel k t u k 0:Option (Bool ⊕ Unit)).bind fun o=>ks (fun r=>some r) (fun s_=>some true) o))
theorem zmq (ax:Axs) (hx:NoAx ax) (k:Nat) (t:List Rule) (u:List Rule) (v:Bool) (H:zk4 k t u=some v):Pure Try.prog (EE ax) [] 14 [zae t,zae u] (.bool v):=by
 rw [zk4] at H;refine en [.tmp 4] 29 [0,1] (hx.no _ (by decide)) (fn14 ax) ?_;intro h hh;apply fg;refine rk [0,1] [] hh fun h hh=>?_;repeat apply fg
 refine rk [0,1,11] [] hh fun h hh=>?_;rcases isp H with ⟨c1,H⟩|⟨c1,H⟩;rotate_left
 .skip;refine cf (f2 hh (zAb c1)) ?_;refine sk ?_;repeat apply fg
  refine rk [0,1,5] [] hh fun h hh=>?_;obtain ⟨o,H1,H⟩:=zab H;refine cu [] 0 (fun h bs=>∃ s_:Unit,o=.inr s_/\(True)/\bs=[]) ?_ ?_
  .skip;apply gl;refine jj [0,1,5] (fun m h bs=>∃ (k_:Int),zel k t u m k_=some o/\(h 0=zae t/\h 1=zae u/\h 5=.int .i64 k_)/\bs=[]) ?_ k _ _ ?_;rotate_left
   .exact ⟨0,H1,kq hh,rfl⟩
   clear hh h H1;rintro m h bs ⟨k_,H1,hh,rfl⟩;rcases m with _|m
   .rw [zel] at H1;cases H1
   rw [zel] at H1;repeat apply fg
   refine rk [0,1,5,15] [] hh fun h hh=>?_;rcases isp H1 with ⟨c2,H1⟩|⟨c2,H1⟩;rotate_left
   .skip;refine cf (f2 hh (zAb c2)) ?_;refine xk ?_;cases H1;exact ce hh ⟨_,rfl,kq hh,rfl⟩
   refine ct (f2 hh (zAa c2)) ?_;refine sk ?_;apply fg;apply gl;obtain ⟨g3,H1⟩:=isg H1;obtain ⟨g4,H1⟩:=isg H1;obtain ⟨bg,e5,H1⟩:=zab H1;apply fg;refine dk 8 [0,1,5,6] [] [] [(.bool bg,stL [])] (f3 hh (zag g3) (zag g4)) trivial ?_ ?_
   .exact ⟨gd ((zl7 ax hx k (gx t k_) (gx u k_) bg e5 ).call _),trivial⟩
   clear hh h;intro h hh;apply fg;refine rk [0,1,5,28] [] hh fun h hh=>?_;rcases isb H1 with ⟨c6,H1⟩|⟨c6,H1⟩;rotate_left
   .skip;refine ct (f2 hh c6) ?_;apply fg;refine rk [4] [] (f2 hh c6) fun h hh=>?_;cases H1;obtain rfl:=sinl H;exact rt hh
   refine cf (f2 hh c6) ?_;refine sk ?_;refine rk [0,1,5] [] (f2 hh c6) fun h hh=>?_;exact rd m hh ⟨(fi.wrap (k_+1)),H1,kq hh,rfl⟩
  clear hh h;rintro h bs ⟨s_,rfl,hh,rfl⟩;replace H:=sinr H;apply fg;refine rk [4] [] hh fun h hh=>?_;cases H;exact rt hh
 refine ct (f2 hh (zAa c1)) ?_;apply fg;refine rk [4] [] hh fun h hh=>?_;cases H;exact rt hh
def zce (k:Nat) (p:Pat) (q:Pat):Nat->Int->Option (Bool ⊕ Unit)
 |0,_=>none
 |m+1,i=>(if i<10 then (if 0<=i/\i<(10:Int) then (if (iAnd .i64 (iAnd .i64 (iXor .i64 (gx p.bits.l i) (gx q.bits.l i)) (gx p.mask.l i)) (gx q.mask.l i))≠0 then some (.inl false) else zce k p q m (fi.wrap (i+1))) else none) else some (.inr ()))
def zgb (k:Nat) (p:Pat) (q:Pat):Option Bool:=((zce k p q k 0:Option (Bool ⊕ Unit)).bind fun o=>ks (fun r=>some r) (fun s_=>some true) o)
theorem zl9 (ax:Axs) (hx:NoAx ax) (k:Nat) (p:Pat) (q:Pat) (v:Bool) (H:zgb k p q=some v):Pure Try.prog (EE ax) [] 74 [ePat p,ePat q] (.bool v):=by
 rw [zgb] at H;refine en [.tmp 4] 30 [0,1] (hx.no _ (by decide)) (fn74 ax) ?_;intro h hh;apply fg;refine rk [2,3] [] hh fun h hh=>?_;repeat apply fg
 refine rk [2,3,6] [] hh fun h hh=>?_;obtain ⟨o,H1,H⟩:=zab H;refine cu [] 2 (fun h bs=>∃ s_:Unit,o=.inr s_/\(True)/\bs=[.cells true 20 (p.mask.l.map (fh .i64)++(p.bits.l.map (fh .i64))),.cells true 20 (q.mask.l.map (fh .i64)++(q.bits.l.map (fh .i64)))]) ?_ ?_
 .skip;apply gl;refine jj [2,3,6] (fun m h bs=>∃ (i:Int),zce k p q m i=some o/\(h 2=.ptr 0 0 20/\h 3=.ptr 1 0 20/\h 6=.int .i64 i)/\bs=[.cells true 20 (p.mask.l.map (fh .i64)++(p.bits.l.map (fh .i64))),.cells true 20 (q.mask.l.map (fh .i64)++(q.bits.l.map (fh .i64)))]) ?_ k _ _ ?_;rotate_left
  .exact ⟨0,H1,kq hh,rfl⟩
  clear hh h H1;rintro m h bs ⟨i,H1,hh,rfl⟩;rcases m with _|m
  .rw [zce] at H1;cases H1
  rw [zce] at H1;apply fg;refine rk [2,3,6,7] [] hh fun h hh=>?_;rcases isp H1 with ⟨c1,H1⟩|⟨c1,H1⟩;rotate_left
  .skip;apply fg;refine cf (f2 hh (zAb c1)) ?_;refine xk ?_;cases H1;exact ce hh ⟨_,rfl,kq hh,rfl⟩
  apply fg;refine ct (f2 hh (zAa c1)) ?_;refine sk ?_;apply fg;apply gl;apply fg;refine rk [2,3,5,6] [] hh fun h hh=>?_;obtain ⟨g2,H1⟩:=isg H1;apply fg;refine dk 18 [2,3,6,28] [] [] [] (f3 hh (zok (k:=.i64) (off:=10) (L:=(p.mask.l.map (fh .i64)++(p.bits.l.map (fh .i64)))) (r:=[]) p.bits g2) (f3 (zok (k:=.i64) (off:=10) (L:=(q.mask.l.map (fh .i64)++(q.bits.l.map (fh .i64)))) (r:=[]) q.bits g2) (zq8 (k:=.i64) (L:=(p.mask.l.map (fh .i64)++(p.bits.l.map (fh .i64)))) (r:=(p.bits.l.map (fh .i64))) p.mask g2) (zq8 (k:=.i64) (L:=(q.mask.l.map (fh .i64)++(q.bits.l.map (fh .i64)))) (r:=(q.bits.l.map (fh .i64))) q.mask g2))) trivial trivial fun h hh=>?_;rcases isp H1 with ⟨c3,H1⟩|⟨c3,H1⟩;rotate_left
  .skip;refine cf (f2 hh (zAb c3)) ?_;refine sk ?_;refine rk [2,3,6] [] hh fun h hh=>?_;exact rd m hh ⟨(fi.wrap (i+1)),H1,kq hh,rfl⟩
  refine ct (f2 hh (zAa c3)) ?_;apply fg;refine rk [4] [] hh fun h hh=>?_;cases H1;obtain rfl:=sinl H;exact rt hh
 clear hh h;rintro h bs ⟨s_,rfl,hh,rfl⟩;replace H:=sinr H;apply fg;refine rk [4] [] hh fun h hh=>?_;cases H;exact rt hh
def zeq (k:Nat) (q:Pat):Nat->Int->(Ar 10)->(Ar 10)->Option (Ar 10×Ar 10)
 |0,_,_,_=>none
 |m+1,i,x,x2=>(if i<10 then (if 0<=i/\i<(10:Int) then zeq k q m (fi.wrap (i+1)) (x.set i (iOr .i64 (gx x.l i) (gx q.mask.l i))) (x2.set i (iOr .i64 (gx x2.l i) (gx q.bits.l i))) else none) else some (x,x2))
def zik (k:Nat) (p:Pat) (q:Pat):Option (Pat×Bool):=((zgb k p q).bind fun bh=>(if bh=true then ((zeq k q k 0 p.mask p.bits:Option (Ar 10×Ar 10)).bind fun s_=>some ((⟨s_.1,s_.2⟩:Pat),true)) else some ((⟨zA 10,zA 10⟩:Pat),false)))
theorem zrj (ax:Axs) (hx:NoAx ax) (k:Nat) (p:Pat) (q:Pat) (v:Pat×Bool) (H:zik k p q=some v):Pure Try.prog (EE ax) [] 59 [ePat p,ePat q] (tupT [ePat v.1,.bool v.2]):=by
 rw [zik] at H;refine enN [.cell 4 56,.tmp 5] 39 [0,1] (hx.no _ (by decide)) (fn59 ax) ?_;intro h hh;apply fg;refine rk [2,3,4] [] hh fun h hh=>?_;obtain ⟨bh,e1,H⟩:=zab H;repeat apply fg
 refine rkp [2,3,4,10] [] [.bool bh] hh ?_ ?_
 .exact ⟨gd ((zl9 ax hx k p q bh e1 ).call _),trivial⟩
 clear hh h;intro h hh;rcases isb H with ⟨c2,H⟩|⟨c2,H⟩;rotate_left
 .skip;refine ct (f2 hh c2) ?_;apply fg;refine rk [4,5] [] (f2 hh c2) fun h hh=>?_;cases H;exact rtc hh
 refine cf (f2 hh c2) ?_;refine sk ?_;repeat apply fg
 refine rk [2,3,4,12] [] (f2 hh c2) fun h hh=>?_;obtain ⟨s_,H1,H⟩:=zab H;refine cu [2,4] 3 (fun h bs=>(h 2=.ptr 0 0 20/\h 4=.ptr 2 0 20)/\bs=[.cells true 20 (s_.1.l.map (fh .i64)++(s_.2.l.map (fh .i64))),.cells true 20 (q.mask.l.map (fh .i64)++(q.bits.l.map (fh .i64))),.cells true 20 ((zA 10).l.map (fh .i64)++((zA 10).l.map (fh .i64)))]) ?_ ?_
 .skip;apply gl;refine jj [2,3,4,12] (fun m h bs=>∃ (i:Int) (x:Ar 10) (x2:Ar 10),zeq k q m i x x2=some s_/\(h 2=.ptr 0 0 20/\h 3=.ptr 1 0 20/\h 4=.ptr 2 0 20/\h 12=.int .i64 i)/\bs=[.cells true 20 (x.l.map (fh .i64)++(x2.l.map (fh .i64))),.cells true 20 (q.mask.l.map (fh .i64)++(q.bits.l.map (fh .i64))),.cells true 20 ((zA 10).l.map (fh .i64)++((zA 10).l.map (fh .i64)))]) ?_ k _ _ ?_;rotate_left
  .exact ⟨0,p.mask,p.bits,H1,kq hh,rfl⟩
  clear hh h H1;rintro m h bs ⟨i,x,x2,H1,hh,rfl⟩;rcases m with _|m
  .rw [zeq] at H1;cases H1
  rw [zeq] at H1;apply fg;refine rk [2,3,4,12,13] [] (f2 hh c2) fun h hh=>?_;rcases isp H1 with ⟨c3,H1⟩|⟨c3,H1⟩;rotate_left
  .skip;apply fg;refine cf (f2 hh (zAb c3)) ?_;refine xk ?_;cases H1;exact ce hh ⟨kq hh,rfl⟩
  apply fg;refine ct (f2 hh (zAa c3)) ?_;refine sk ?_;apply fg;apply gl;apply fg;refine rk [2,3,4,6,12] [] (f2 hh c2) fun h hh=>?_;obtain ⟨g4,H1⟩:=isg H1;apply fg;refine dk 8 [2,3,4,6,12] [] [] [] (f3 hh c2 (f3 (zq8 (k:=.i64) (L:=(x.l.map (fh .i64)++(x2.l.map (fh .i64)))) (r:=(x2.l.map (fh .i64))) x g4) (zq8 (k:=.i64) (L:=(q.mask.l.map (fh .i64)++(q.bits.l.map (fh .i64)))) (r:=(q.bits.l.map (fh .i64))) q.mask g4) (ybn (k:=.i64) (L:=(x.l.map (fh .i64)++(x2.l.map (fh .i64)))) (r:=(x2.l.map (fh .i64))) (L2:=((x.set i (iOr .i64 (gx x.l i) (gx q.mask.l i))).l.map (fh .i64)++(x2.l.map (fh .i64)))) x (iOr .i64 (gx x.l i) (gx q.mask.l i)) g4))) trivial trivial fun h hh=>?_;refine dk 8 [2,3,4,12] [] [] [] (f3 hh c2 (f3 (zok (k:=.i64) (off:=10) (L:=((x.set i (iOr .i64 (gx x.l i) (gx q.mask.l i))).l.map (fh .i64)++(x2.l.map (fh .i64)))) (r:=[]) x2 g4) (zok (k:=.i64) (off:=10) (L:=(q.mask.l.map (fh .i64)++(q.bits.l.map (fh .i64)))) (r:=[]) q.bits g4) (setAt (k:=.i64) (off:=10) (L:=((x.set i (iOr .i64 (gx x.l i) (gx q.mask.l i))).l.map (fh .i64)++(x2.l.map (fh .i64)))) (r:=[]) (L2:=((x.set i (iOr .i64 (gx x.l i) (gx q.mask.l i))).l.map (fh .i64)++((x2.set i (iOr .i64 (gx x2.l i) (gx q.bits.l i))).l.map (fh .i64)))) (p:=((x.set i (iOr .i64 (gx x.l i) (gx q.mask.l i))).l.map (fh .i64))) x2 (iOr .i64 (gx x2.l i) (gx q.bits.l i)) g4))) trivial trivial fun h hh=>?_;refine rk [2,3,4,12] [] (f2 hh c2) fun h hh=>?_;exact rd m hh ⟨(fi.wrap (i+1)),(x.set i (iOr .i64 (gx x.l i) (gx q.mask.l i))),(x2.set i (iOr .i64 (gx x2.l i) (gx q.bits.l i))),H1,kq hh,rfl⟩
 clear hh h;rintro h bs ⟨hh,rfl⟩;apply fg;refine rk [4,5] [] (f2 hh c2) fun h hh=>?_;cases H;exact rtc hh
end Go.Proofs.Ytkfnjbfnkpameaa
