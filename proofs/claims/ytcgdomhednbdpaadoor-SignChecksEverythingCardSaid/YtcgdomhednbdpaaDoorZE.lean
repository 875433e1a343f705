/- Part 5 of the proof of SignChecksEverything (several texts in one; no further condition). -/
import Derived.Test.YtcgdomhednbdpaaDoorZD
import Derived.Test.YtcgdomhednbdpaaDoorZC
import Derived.KernelRfl
set_option linter.unusedSimpArgs false
set_option linter.unusedVariables false
set_option linter.unusedSectionVars false
namespace Go.Proofs.YtcgdomhednbdpaaDoor
section
open Go Go.RowKit
noncomputable def z2c (P:Program) (Γ:Env) (GL:List (Nat×List Value)) (S:TS) (args:List T) (f:T) (r:T):Option Prop:=match f with
 |.fn k first cap=>some (za1 P Γ GL k (first++args++cap) S r)
 |_=>none
noncomputable def andP (p:Prop):Option (Prop×(Nat→T))→Option (Prop×(Nat→T))
 |some (q,h)=>some (p∧q,h)
 |none=>none
noncomputable def runP (P:Program) (Γ:Env) (GL:List (Nat×List Value)) (ops:List Oper):List Oper→(Nat→T)→TS→List T→Option (Prop×(Nat→T))
 |[],h,_,_=>some (True,h)
 |o :: l,h,S,outs=>match zhs ops h o.guard with
  |none=>none
  |some false=>runP P Γ GL ops l (putT h o.dst (.tup [])) S outs
  |some true=>match o.op with
   |.call ⟨.value f,args,tys⟩=>(match outs with
    |r :: outs=>(match z2c P Γ GL S (args.toList.map (zda GL h)) (zda GL h f) r with
     |some p=>andP p (runP P Γ GL ops l (putT h o.dst r) S outs)
     |none=>none)
    |[]=>none)
   |_=>(match zek P Γ (zda GL h) o S with
    |some t=>runP P Γ GL ops l (putT h o.dst t) S outs
    |none=>none)
noncomputable def ygl (ops:List Oper) (x y:Oper):Bool:=match x.dst with|some d=>has (zel ops y) d|none=>false
noncomputable def zt0:Nat→List Oper→List (Bool×Oper)
 |_,[]=>[]
 |0,o :: l=>(true,o) :: zt0 0 l
 |k+1,o :: l=>(false,o) :: zt0 k l
noncomputable def yah (x y:Bool×Oper):Bool:=y.1 && !(zhu x.2.op || zh4 y.2.op)
noncomputable def zqj (m:Nat):List Nat→Nat→Bool
 |[],_=>true
 |x :: l,i=>(!Nat.testBit m i || Nat.beq (Nat.land x m) x) && zqj m l (i+1)
noncomputable def zi1 (k:Nat) (ops:List Oper):Bool :=
 zem (ygl ops) [] ops (zcr ops []) && (zem yah [] (zt0 k ops) (zcr ops []) && (zcr ops []).all fun m=>zqj m (zcr ops []) 0)
theorem zrd {m:Nat}:∀ {l:List Nat} {i:Nat},zqj m l i=true→∀ j,j<l.length→Nat.testBit m (i+j)=true→∀ b,Nat.testBit (nth 0 l j) b=true→Nat.testBit m b=true
 |[],_,_,j,hj,_,_,_=>by simp at hj
 |x :: l,i,h,j,hj,ht,b,hb=>by
  simp only [zqj,Bool.and_eq_true] at h
  cases j with
  |zero =>
   have h1:=h.1;rw [show Nat.testBit m i=true from ht] at h1;simp only [Bool.not_true,Bool.false_or] at h1;have h2:x &&& m=x:=Nat.eq_of_beq_eq_true h1;have h3:Nat.testBit x b=true:=hb;rw [← h2,Nat.testBit_and,Bool.and_eq_true] at h3;exact h3.2
  |succ j=>exact zrd h.2 j (by simpa using hj) (by rw [show i+1+j=i+(j+1) by omega];exact ht) b hb
theorem zy0:∀ (l:List Oper) (ms:List Nat),(zcr l ms).length=ms.length+l.length
 |[],ms=>by simp [zcr]
 |o :: l,ms=>by
  simp only [zcr];rw [zy0 l];simp only [List.length_append,List.length_cons,List.length_nil];omega
theorem zl8:∀ {k:Nat} {ops:List Oper} {i:Nat} {o:Oper},ops[i]?=some o→(zt0 k ops)[i]?=some (decide (k≤i),o)
 |_,[],i,o,h=>by simp at h
 |0,x :: l,i,o,h=>by
  cases i with
  |zero=>simp only [List.getElem?_cons_zero,Option.some.injEq] at h;subst h;rfl
  |succ i =>
   have:=zl8 (k:=0) (ops:=l) (i:=i) (by simpa using h)
   simpa [zt0] using this
 |k+1,x :: l,i,o,h=>by
  cases i with
  |zero=>simp only [List.getElem?_cons_zero,Option.some.injEq] at h;subst h;rfl
  |succ i =>
   have:=zl8 (k:=k) (ops:=l) (i:=i) (by simpa using h);simpa [zt0] using this
section
variable {GL:List (Nat×List Value)} {A A' A0:Nat→Prop} {β β':Bx} {S S':TS} {s s0 s' s2:CS} {P:Program} {Γ:Env} {N:Nat} {h h':Nat→T}
theorem z6s {k:Nat} {ops:List Oper} (hd:zi1 k ops=true) {i j:Nat} {x y:Oper} (hij:i<j) (hx:ops[i]?=some x) (hy:ops[j]?=some y) {d:Nat} (hxd:x.dst=some d) (hdy:d∈zel ops y):Nat.testBit (nth 0 (zcr ops []) j) i=true:=by
 unfold zi1 at hd;simp only [Bool.and_eq_true] at hd;rcases ze8 hd.1 i j x y hij (Nat.zero_le _) (by simpa using hx) (by simpa using hy) with q|q
 ·exact q
 ·unfold ygl at q;rw [hxd] at q;simp only at q;rw [zsb hdy] at q;simp at q
theorem z14 {k:Nat} {ops:List Oper} (hd:zi1 k ops=true) {i j:Nat} {x y:Oper} (hij:i<j) (hkj:k≤j) (hx:ops[i]?=some x) (hy:ops[j]?=some y):Nat.testBit (nth 0 (zcr ops []) j) i=true∨zhu x.op=true∨zh4 y.op=true:=by
 unfold zi1 at hd;simp only [Bool.and_eq_true] at hd;rcases ze8 hd.2.1 i j _ _ hij (Nat.zero_le _) (by simpa using zl8 hx) (by simpa using zl8 hy) with q|q
 ·exact .inl q
 ·unfold yah at q;rw [decide_eq_true hkj] at q;simp only [Bool.true_and,Bool.not_eq_false',Bool.or_eq_true] at q;exact .inr q
theorem zzr {k:Nat} {ops:List Oper} (hd:zi1 k ops=true) {j i b:Nat} (hj:j<ops.length) (hi:i<ops.length) (h1:Nat.testBit (nth 0 (zcr ops []) j) i=true) (h2:Nat.testBit (nth 0 (zcr ops []) i) b=true):Nat.testBit (nth 0 (zcr ops []) j) b=true:=by
 unfold zi1 at hd;simp only [Bool.and_eq_true] at hd;have hl:=zy0 ops [];simp only [List.length_nil,Nat.zero_add] at hl
 have hm:nth 0 (zcr ops []) j∈zcr ops []:=by
  have key:∀ (l:List Nat) (j:Nat),j<l.length→nth 0 l j∈l:=by
   intro l
   induction l with
   |nil=>intro j hj;simp at hj
   |cons x l ih =>
    intro j hj
    cases j with
    |zero=>exact List.mem_cons_self
    |succ j=>exact List.mem_cons_of_mem _ (ih j (by simpa using hj))
  exact key _ j (by omega)
 have:=List.all_eq_true.1 hd.2.2 _ hm;exact zrd this i (by omega) (by rw [Nat.zero_add];exact h1) b h2
def SupL (A0:Nat→Prop) (L:List Lg) (D:Nat) (f:Nat):Prop:=A0 f∨∃ (m:Nat) (x:Lg),Nat.testBit D m=true∧L[m]?=some x∧x.lo≤f∧f<x.hi
theorem SupL.more {L M:List Lg} {D E:Nat} (hD:∀ m,m<L.length→Nat.testBit D m=true→Nat.testBit E m=true) {f:Nat} (k:SupL A0 L D f):SupL A0 (L++M) E f:=by
 rcases k with k|⟨m,x,h1,h2,h3⟩
 ·exact .inl k
 ·have hm:=(List.getElem?_eq_some_iff.1 h2).1;exact .inr ⟨m,x,hD m hm h1,by rw [List.getElem?_append_left hm];exact h2,h3⟩
theorem SupL.sub {L:List Lg} {D E:Nat} (hD:∀ m,m<L.length→Nat.testBit D m=true→Nat.testBit E m=true) {f:Nat} (k:SupL A0 L D f):SupL A0 L E f:=by
 have:=SupL.more (M:=[]) hD k;simpa using this
structure zok (GL:List (Nat×List Value)) (ops:List Oper) (A0:Nat→Prop) (β:Bx) (S:TS) (s0:CS) (N:Nat) (L:List Lg) (h:Nat→T) (fr:Fr) (s:CS):Prop where
 nt:fr.nt=N
 le:N≤512
 rel:TRel GL A0 β S s
 slot:∀ t,∃ D,VT (SupL A0 L D) β (zag s.obj) (h t) (fr.get t)∧∀ (j:Nat) (o:Oper),L.length≤j→ops[j]?=some o→t∈zel ops o→∀ m,m<L.length→Nat.testBit D m=true→Nat.testBit (nth 0 (zcr ops []) j) m=true
 log:∀ (k:Nat) (x:Lg),L[k]?=some x→s0.n≤x.lo∧x.lo≤x.hi∧x.hi≤s.n∧x.wr=[]∧∀ f,f∈x.rd→f<x.lo∧(SupL A0 L (nth 0 (zcr ops []) k) f∨Own β f)
 apart:∀ (k m:Nat) (x y:Lg),k<m→L[k]?=some x→L[m]?=some y→x.hi≤y.lo
 own:∀ f,Own β f→f<s0.n
 base:∀ f,A0 f→f<s0.n
 calm:zi3 A0 β s0 A0 s
 lim:s0.lim≤s0.n
theorem TRel.more (hT:TRel GL A β S s) (A1:Nat→Prop) (h1:∀ f,A f→A1 f) (h2:∀ f,A1 f→f<s.n) (h3:∀ f,A1 f→¬ Own β f):TRel GL A1 β S s :=
 ⟨hT.inr,hT.inv,h2,fun f hf=>⟨(hT.dis f hf).1,fun hh=>h3 f hh hf⟩,hT.inj,hT.next,fun b z N l hb=>(hT.cells b z N l hb).mono h1 (fun _ _=>rfl) (Bx.le_refl _) rfl fun _ _ _ _=>rfl,
  fun b l hb=>(hT.maps b l hb).mono h1 (fun _ _=>rfl) (Bx.le_refl _) rfl fun _ _=>rfl,fun x hx=>⟨h1 _ (hT.glob x hx).1,(hT.glob x hx).2⟩⟩
theorem TRel.inner (hT:TRel GL A β S s):TRel GL A β S s.inner:=⟨hT.inr,⟨hT.inv.none,hT.inv.vers,Nat.le_refl _⟩,hT.alt,hT.dis,hT.inj,hT.next,hT.cells,hT.maps,hT.glob⟩
theorem TRel.outer (hT:TRel GL A β S s') (hl:s.lim≤s'.n):TRel GL A β S (s.outer s'):=⟨hT.inr,⟨hT.inv.none,hT.inv.vers,hl⟩,hT.alt,hT.dis,hT.inj,hT.next,hT.cells,hT.maps,hT.glob⟩
theorem zi3.trans (hl:s.lim≤s.n) (k1:zi3 A β s A s') (k2:zi3 A β s' A s2):zi3 A β s A s2:=by
 refine ⟨k1.can.trans k2.can,fun _ h=>h,fun _ h=>.inl h,fun f hf=>?_,fun x hx=>?_,fun x hx=>k1.wr x (k2.wr x hx)⟩
 ·rw [k2.keep f (Nat.lt_of_lt_of_le hf k1.can.n)];exact k1.keep f hf
 ·rcases k2.rd x hx with q|⟨q,q2⟩
  ·exact k1.rd x q
  ·rw [k1.can.lim] at q;exact .inr ⟨q,q2⟩
theorem zok.next {k0:Nat} {ops:List Oper} (hd:zi1 k0 ops=true) {L:List Lg} {fr:Fr} {o:Oper} (I:zok GL ops A0 β S s0 N L h fr s) (ho:ops[L.length]?=some o) (hdst:∀ t,o.dst=some t→t<N) {t:T} {v:Value} {s1:CS}
    (k1:TRel GL A' β S s1) (k2:VT A' β (zag s1.obj) t v) (k3:zi3 (SupL A0 L (nth 0 (zcr ops []) L.length)) β s.inner A' s1) :
    zok GL ops A0 β S s0 N (L++[⟨s1.rd,s1.wr,s.n,s1.n⟩]) (putT h o.dst t) (putC fr o.dst v) (s.outer s1):=by
  have hsn:s.n≤s1.n:=k3.can.n;have hln:L.length<ops.length:=(List.getElem?_eq_some_iff.1 ho).1;have h0n:s0.n≤s.n:=I.calm.can.n
  have hsup:∀ f D,SupL A0 L D f→f<s.n:=fun f D hf=>by
    rcases hf with q|⟨m,x,_,q2,_,q4⟩
    · have:=I.base f q;omega
    · have:=(I.log m x q2).2.2.1;omega
  have hA':∀ f,A' f→SupL A0 (L++[⟨s1.rd,s1.wr,s.n,s1.n⟩]) (nth 0 (zcr ops []) L.length ||| 2 ^ L.length) f:=fun f hf=>by
    rcases k3.new f hf with q|q
    · refine SupL.more (fun m hm hb=>?_) q;rw [Nat.testBit_or,hb];rfl
    · refine .inr ⟨L.length,⟨s1.rd,s1.wr,s.n,s1.n⟩,?_,by simp,q,k1.alt f hf⟩;rw [Nat.testBit_or,Nat.testBit_two_pow_self];simp
  have hobj:∀ f,f<s.n→zag s1.obj f=zag s.obj f:=fun f hf=>k3.keep f hf
  have hwr:s1.wr=[]:=by
    rw [List.eq_nil_iff_forall_not_mem];intro x hx;have:=k3.wr x hx;simp [CS.inner] at this
  have hcal:zi3 A0 β s A0 (s.outer s1):=by
    refine ⟨zlm I.rel.inv k3.can,fun _ h=>h,fun _ h=>.inl h,hobj,fun x hx=>?_,fun x hx=>?_⟩
    · rcases zbv (l:=s1.rd) rfl x hx with q|⟨q,q2⟩
      · exact .inl q
      · refine .inr ⟨q2,?_⟩;have hxn:x<s0.n:=by have h1:=I.calm.can.lim;have h2:=I.lim;rw [h1] at q2;omega
        rcases k3.rd x q with q3|⟨_,q3⟩
        · simp [CS.inner] at q3
        · rcases q3 with (q3|⟨m,y,_,q5,q6,_⟩)|q3
          · exact .inl q3
          · have:=(I.log m y q5).1;omega
          · exact .inr q3
    · rcases zbv (l:=s1.wr) rfl x hx with q|⟨q,_⟩
      · exact q
      · rw [hwr] at q;simp at q
  have hrel:TRel GL A0 β S (s.outer s1):=hcal.rel I.rel k1.inr ⟨k1.inv.none,k1.inv.vers,by have:=I.rel.inv.lim;show s.lim≤s1.n;omega⟩ fun f hf=>by have:=I.rel.alt f hf;show f<s1.n;omega
  refine ⟨?_,I.le,hrel,fun t'=>?_,fun k x hx=>?_,fun k m x y hkm hx hy=>?_,I.own,I.base,?_,I.lim⟩
  · cases hd2:o.dst with
    |none=>exact I.nt
    |some d =>
      show (fr.put d v).nt=N;unfold Fr.put;rw [zbw];split<;>exact I.nt
  · by_cases ht':o.dst=some t'
    · rw [ht'];refine ⟨nth 0 (zcr ops []) L.length ||| 2 ^ L.length,?_,fun j o' hj ho' hn m hm hb=>?_⟩
      · show VT _ _ _ (tupd h t' t t') ((fr.put t' v).get t');rw [zjt,Fr.get_put_same v (by rw [I.nt];exact hdst _ ht') (by rw [I.nt];exact I.le)];exact k2.mono hA' (fun _ _=>rfl) (Bx.le_refl _)
      · rw [List.length_append,List.length_singleton] at hj hm;have hdep:=z6s hd (show L.length<j by omega) ho ho' ht' hn;rw [Nat.testBit_or,Bool.or_eq_true] at hb;rcases hb with hb|hb
        · exact zzr hd (List.getElem?_eq_some_iff.1 ho').1 hln hdep hb
        · rw [Nat.testBit_two_pow] at hb;have:L.length=m:=by simpa using hb
          rw [← this];exact hdep
    · obtain ⟨D,d1,d2⟩:=I.slot t';refine ⟨D &&& (2 ^ L.length - 1),?_,fun j o' hj ho' hn m hm hb=>?_⟩
      · have e1:putT h o.dst t t'=h t':=by
          cases hd2:o.dst with
          |none=>rfl
          |some d=>exact zon _ _ _ _ fun hh=>ht' (by rw [hd2,hh])
        have e2:(putC fr o.dst v).get t'=fr.get t':=by
          cases hd2:o.dst with
          |none=>rfl
          |some d=>exact Fr.get_put_other v (by rw [I.nt];exact I.le) fun hh=>ht' (by rw [hd2,hh])
        rw [e1,e2];refine d1.mono (fun f hf=>SupL.more (fun m hm hb=>?_) hf) (fun f hf=>hobj f (hsup f D hf)) (Bx.le_refl _);rw [Nat.testBit_and,hb,Nat.testBit_two_pow_sub_one];simp [hm]
      · rw [List.length_append,List.length_singleton] at hj;rw [Nat.testBit_and,Bool.and_eq_true,Nat.testBit_two_pow_sub_one] at hb;exact d2 j o' (by omega) ho' hn m (of_decide_eq_true hb.2) hb.1
  · by_cases hk:k<L.length
    · rw [List.getElem?_append_left hk] at hx;obtain ⟨l1,l2,l3,l4,l5⟩:=I.log k x hx;exact ⟨l1,l2,by show x.hi≤s1.n;omega,l4,fun f hf=>⟨(l5 f hf).1,(l5 f hf).2.imp (fun q=>SupL.more (fun _ _ hb=>hb) q) id⟩⟩
    · have hk2:k=L.length:=by
        have:=(List.getElem?_eq_some_iff.1 hx).1;rw [List.length_append,List.length_singleton] at this;omega
      subst hk2;simp only [List.getElem?_append_right (Nat.le_refl _),Nat.sub_self,List.getElem?_cons_zero,Option.some.injEq] at hx;subst hx;refine ⟨h0n,hsn,Nat.le_refl _,hwr,fun f hf=>?_⟩;rcases k3.rd f hf with q|⟨q,q2⟩
      · simp [CS.inner] at q
      · exact ⟨q,q2.imp (fun q3=>SupL.more (fun _ _ hb=>hb) q3) id⟩
  · by_cases hm:m<L.length
    · rw [List.getElem?_append_left (by omega)] at hx;rw [List.getElem?_append_left hm] at hy;exact I.apart k m x y hkm hx hy
    · have hm2:m=L.length:=by
        have:=(List.getElem?_eq_some_iff.1 hy).1;rw [List.length_append,List.length_singleton] at this;omega
      subst hm2;rw [List.getElem?_append_left hkm] at hx;simp only [List.getElem?_append_right (Nat.le_refl _),Nat.sub_self,List.getElem?_cons_zero,Option.some.injEq] at hy;subst hy;exact (I.log k x hx).2.2.1
  · exact I.calm.trans I.lim hcal
theorem zwj {ops:List Oper} {o:Oper} {x:Nat} (hx:Operand.tmp x∈o.op.operands.toList):x∈zel ops o:=by
 unfold zel;refine List.mem_append.2 (.inl ?_);rw [List.mem_filterMap];exact ⟨.tmp x,hx,rfl⟩
theorem z1o {ops:List Oper} {o:Oper} {j d:Nat} {w:Bool} (hg:o.guard=some (j,w)) (hd:zk7 ops j=some d):d∈zel ops o:=by
 unfold zel;refine List.mem_append.2 (.inr ?_);rw [hg];simp only [hd];exact List.mem_singleton.2 rfl
theorem z3n (hE:zcm P Γ) {k0:Nat} {ops:List Oper} (hd:zi1 k0 ops=true):∀ {l:List Oper} {L:List Lg} {h h':Nat→T} {fr:Fr} {s:CS} {outs:List T} {ob:Prop},zok GL ops A0 β S s0 N L h fr s→(∀ (j:Nat) (o:Oper),l[j]?=some o→ops[L.length+j]?=some o)→zfl N l=true→runP P Γ GL ops l h S outs=some (ob,h')→ob →
    ∃ M fr' s',drawC P Γ (za0 P Γ) ops l fr s=some (M,fr',s')∧zok GL ops A0 β S s0 N (L++M) h' fr' s'∧M.length=l.length
  |[],L,h,h',fr,s,outs,ob,I,hl,hdo,hr,hob=>by
    simp only [runP,Option.some.injEq,Prod.mk.injEq] at hr;obtain ⟨rfl,rfl⟩:=hr;exact ⟨[],fr,s,rfl,by rw [List.append_nil];exact I,rfl⟩
  |o :: l,L,h,h',fr,s,outs,ob,I,hl,hdo,hr,hob=>by
    have hd':zfl N l=true∧∀ t,o.dst=some t→t<N:=by
      unfold zfl at hdo ⊢;rw [List.all_cons,Bool.and_eq_true] at hdo;refine ⟨hdo.2,fun t ht=>?_⟩;have:=hdo.1;rw [ht] at this;exact zai.1 this
    have ho:ops[L.length]?=some o:=by have:=hl 0 o rfl;simpa using this
    -- what the operation may lean on
    have hrel:TRel GL (SupL A0 L (nth 0 (zcr ops []) L.length)) β S s.inner:=by
      refine TRel.inner (I.rel.more _ (fun f hf=>.inl hf) (fun f hf=>?_) (fun f hf ho=>?_))
      · rcases hf with q|⟨m,x,_,q2,_,q4⟩
        · exact I.rel.alt f q
        · have:=(I.log m x q2).2.2.1;omega
      · rcases hf with q|⟨m,x,_,q2,q3,q4⟩
        · exact (I.rel.dis f ho).2 q
        · have:=(I.log m x q2).1;have:=I.own f ho;omega
    -- the slots that it names
    let ho':Nat→T:=fun t=>if t∈zel ops o then h t else .junk
    have hin:∀ t,t∈zel ops o→ho' t=h t:=fun t ht=>if_pos ht
    have hF:FrOk (SupL A0 L (nth 0 (zcr ops []) L.length)) β (zag s.inner.obj) N ho' fr:=⟨I.nt,I.le,fun t=>by
      by_cases ht:t∈zel ops o
      · rw [hin t ht];obtain ⟨D,d1,d2⟩:=I.slot t;exact d1.mono (fun f hf=>SupL.sub (fun m hm hb=>d2 L.length o (Nat.le_refl _) ho ht m hm hb) hf) (fun _ _=>rfl) (Bx.le_refl _)
      · rw [show ho' t=.junk from if_neg ht]
        exact .junk _⟩
    have hev:∀ x,x∈o.op.operands.toList→zda GL ho' x=zda GL h x:=fun x hx=>by
      cases x with
      |tmp t=>exact hin t (zwj hx)
      |_=>rfl
    have hgd:zhs ops ho' o.guard=zhs ops h o.guard:=by
      cases hg:o.guard with
      |none=>rfl
      |some p =>
        obtain ⟨j,w⟩:=p;unfold zhs;simp only
        cases hdd:zk7 ops j with
        |none=>rfl
        |some d=>simp only [hin d (z1o hg hdd)]
    -- the rest behind a step that is done
    have go:∀ {t:T} {v:Value} {s1:CS} {A':Nat→Prop} {outs':List T} {ob':Prop},TRel GL A' β S s1→VT A' β (zag s1.obj) t v→zi3 (SupL A0 L (nth 0 (zcr ops []) L.length)) β s.inner A' s1→zbj P Γ (za0 P Γ) ops o fr s.inner=some (putC fr o.dst v,s1)→runP P Γ GL ops l (putT h o.dst t) S outs'=some (ob',h')→ob'→∃ M fr' s',drawC P Γ (za0 P Γ) ops (o :: l) fr s=some (M,fr',s')∧zok GL ops A0 β S s0 N (L++M) h' fr' s'∧M.length=(o :: l).length:=by
      intro t v s1 A' outs' ob' k1 k2 k3 hst hrun hob';have I2:=I.next hd ho hd'.2 k1 k2 k3
      obtain ⟨M,fr',s',m1,m2,m3⟩:=z3n hE hd I2 (fun j o' hj=>by
        have:=hl (j+1) o' (by simpa using hj);rw [List.length_append,List.length_singleton];rw [show L.length+1+j=L.length+(j+1) by omega]
        exact this) hd'.1 hrun hob'
      refine ⟨⟨s1.rd,s1.wr,s.n,s1.n⟩ :: M,fr',s',?_,?_,by simp [m3]⟩
      · rw [drawC,hst];simp only;rw [m1]
      · rw [List.append_assoc] at m2;exact m2
    unfold runP at hr;split at hr
    · simp at hr
    · rename_i hg;rw [← hgd] at hg;have hw:=zhr hF hg;refine go hrel VT.undf ⟨Can.refl _,fun _ h=>h,fun _ h=>.inl h,fun _ _=>rfl,fun _ h=>.inl h,fun _ h=>h⟩ ?_ hr hob;unfold zbj;rw [hw,cond_false]
    · rename_i hg;rw [← hgd] at hg;have hw:=zhr hF hg;split at hr
      · rename_i f args tys hop;split at hr
        · rename_i r outs';split at hr
          · rename_i p hp;unfold z2c at hp;split at hp
            · rename_i k first cap hf
              simp only [Option.some.injEq] at hp;subst hp
              cases hrun:runP P Γ GL ops l (putT h o.dst r) S outs' with
              |none=>rw [hrun] at hr;simp [andP] at hr
              |some q =>
                obtain ⟨q1,q2⟩:=q;rw [hrun] at hr;simp only [andP,Option.some.injEq,Prod.mk.injEq] at hr;obtain ⟨rfl,rfl⟩:=hr;have hfv:=hF.eval hrel f;rw [hev f (by rw [hop];simp [Op.operands,Call.operands]),hf] at hfv;generalize e1:zeu fr f=vf at hfv
                cases hfv with
                |fn h1 h2 =>
                  rename_i va vc;have hargs:=zth (hF.eval hrel) args.toList;have hargs':args.toList.map (zda GL ho')=args.toList.map (zda GL h):=zsd fun x hx=>hev x (by rw [hop];simp [Op.operands,Call.operands];right;simpa using hx);rw [hargs'] at hargs;obtain ⟨v,s1,A',c1,c2,c3,c4⟩:=hob.1 _ β s.inner _ hrel ((h1.append hargs).append h2);refine go c2 c3 c4 ?_ hrun hob.2;unfold zbj;rw [hw,cond_true]
                  have:cop P Γ (za0 P Γ) (zeu fr) o s.inner=some (v,s1):=by
                    unfold cop;simp only [hop,e1];unfold zjd;exact c1
                  rw [this]
            · simp at hp
          · simp at hr
        · simp at hr
      · split at hr
        · rename_i t hst;have hst':zek P Γ (zda GL ho') o S=some t:=by rw [z08 hev];exact hst
          obtain ⟨v,s1,A',c1,c2,c3,c4⟩:=z2p (call:=za0 P Γ) hE hrel (hF.eval hrel) hst';refine go c2 c3 c4 ?_ hr hob;unfold zbj;rw [hw,cond_true,c1]
        · simp at hr
theorem Stp.outer (hI:CInv s) (k:Stp A β s.inner A' β' s'):Stp A β s A' β' (s.outer s'):=by
 refine ⟨zlm hI k.can,k.sub,k.new,k.own,k.keep,k.bx,fun x hx=>?_,fun x hx=>?_⟩
 ·rcases zbv (l:=s'.rd) rfl x hx with q|⟨q,q2⟩
  ·exact .inl q
  ·rcases k.rd x q with q3|⟨_,q3⟩
   ·simp [CS.inner] at q3
   ·exact .inr ⟨q2,q3⟩
 ·rcases zbv (l:=s'.wr) rfl x hx with q|⟨q,q2⟩
  ·exact .inl q
  ·rcases k.wr x q with q3|⟨_,q3⟩
   ·simp [CS.inner] at q3
   ·exact .inr ⟨q2,q3⟩
theorem zwc (hE:zcm P Γ) {own:List Nat} {ops:List Oper} {N:Nat}:∀ {l:List Oper} {h h':Nat→T} {S S':TS} {outs:List (T×TS)} {ob:Prop} {A:Nat→Prop} {β:Bx} {fr:Fr} {s:CS},zfl N l=true→FrOk A β (zag s.obj) N h fr→TRel GL A β S s→runT P Γ GL own ops l h S outs=some (ob,h',S')→ob →
    ∃ M fr' s',drawC P Γ (za0 P Γ) ops l fr s=some (M,fr',s')∧Left GL A β s N fr' s' h' S'
  |[],h,h',S,S',outs,ob,A,β,fr,s,hd,hF,hT,hr,hob=>by
    simp only [runT,Option.some.injEq,Prod.mk.injEq] at hr;obtain ⟨rfl,rfl,rfl⟩:=hr;exact ⟨[],fr,s,rfl,A,β,hF,hT,Stp.refl⟩
  |o :: l,h,h',S,S',outs,ob,A,β,fr,s,hd,hF,hT,hr,hob=>by
    have hd':zfl N l=true∧∀ t,o.dst=some t→t<N:=by
      unfold zfl at hd ⊢;rw [List.all_cons,Bool.and_eq_true] at hd;refine ⟨hd.2,fun t ht=>?_⟩;have:=hd.1;rw [ht] at this;exact zai.1 this
    have hTi:=hT.inner
    have go:∀ {t:T} {S1:TS} {r:Option (Value×CS)} {l':List (T×TS)} {ob':Prop},Ok GL A β s.inner r t S1→(cop P Γ (za0 P Γ) (zeu fr) o s.inner=r)→zb9 ops fr o=true→runT P Γ GL own ops l (putT h o.dst t) S1 l'=some (ob',h',S')→ob'→∃ M fr' s',drawC P Γ (za0 P Γ) ops (o :: l) fr s=some (M,fr',s')∧Left GL A β s N fr' s' h' S':=by
      rintro t S1 r l' ob' ⟨v,s1,A1,β1,rfl,k1,k2,k3⟩ hc hw hrun hob';have hF1:FrOk A1 β1 (zag s1.obj) N h fr:=hF.mono k3.sub (Stp.old (s:=s.inner) hTi k3) k3.bx;have hS:Stp A β s A1 β1 (s.outer s1):=k3.outer hT.inv;obtain ⟨M,fr',s',e1,e2⟩:=zwc hE hd'.1 (s:=s.outer s1) (hF1.put hd'.2 k2) (k1.outer (Nat.le_trans hT.le k3.can.n)) hrun hob';refine ⟨⟨s1.rd,s1.wr,s.n,s1.n⟩ :: M,fr',s',?_,Left.trans (h':=h) (fr':=fr) hT.le hS e2⟩;rw [drawC]
      have:zbj P Γ (za0 P Γ) ops o fr s.inner=some (putC fr o.dst v,s1):=by
        unfold zbj;rw [hw,cond_true,hc]
      rw [this];simp only;rw [e1]
    unfold runT at hr;split at hr
    · simp at hr
    · rename_i hg;have hw:=zhr hF hg;have hS:Stp A β s A β (s.outer s.inner):=Stp.outer hT.inv Stp.refl;obtain ⟨M,fr',s',e1,e2⟩:=zwc hE hd'.1 (s:=s.outer s.inner) (hF.put hd'.2 VT.undf) (hTi.outer hT.le) hr hob;refine ⟨⟨[],[],s.n,s.n⟩ :: M,fr',s',?_,Left.trans (h':=h) (fr':=fr) hT.le hS e2⟩;rw [drawC]
      have:zbj P Γ (za0 P Γ) ops o fr s.inner=some (putC fr o.dst undef,s.inner):=by
        unfold zbj;rw [hw,cond_false]
      rw [this];simp only;rw [e1];rfl
    · rename_i hg;have hw:=zhr hF hg;split at hr
      · rename_i f args tys ho;split at hr
        · rename_i r outs';split at hr
          · rename_i p hp;unfold zxe at hp;split at hp
            · rename_i k first cap hf
              simp only [Option.some.injEq] at hp;subst hp
              cases hrun:runT P Γ GL own ops l (putT h o.dst r.1) r.2 outs' with
              |none=>rw [hrun] at hr;simp [andT] at hr
              |some q =>
                obtain ⟨q1,q2,q3⟩:=q;rw [hrun] at hr;simp only [andT,Option.some.injEq,Prod.mk.injEq] at hr;obtain ⟨rfl,rfl,rfl⟩:=hr;have hfv:=hF.eval hT f;rw [hf] at hfv;generalize e1:zeu fr f=vf at hfv
                cases hfv with
                |fn h1 h2 =>
                  rename_i va vc;have hargs:=zth (hF.eval hT) args.toList;have hcall:=hob.1 A β s.inner _ hTi ((h1.append hargs).append h2);refine go hcall ?_ hw hrun hob.2;unfold cop;simp only [ho,e1];unfold zjd;rfl
            · simp at hp
          · simp at hr
        · simp at hr
      · split at hr
        · rename_i t S1 hst;exact go (zvw hE hTi (hF.eval hT) hst) rfl hw hr hob
        · simp at hr
theorem zg9 {x y:Lg} (h1:x.rd=[]) (h2:x.wr=[]) (h3:x.lo=x.hi):clash x y=false:=by
 obtain ⟨rx,wx,lo,hi⟩:=x;obtain ⟨ry,wy,lo',hi'⟩:=y;simp only at h1 h2 h3;subst h1;subst h2;subst h3;exact zec (fun f hf=>by simp at hf) (fun f hf=>by simp at hf) (fun f _=>by omega) (fun f _=>by omega)
theorem zg8 {x y:Lg} (h1:y.rd=[]) (h2:y.wr=[]):clash x y=false:=by
 obtain ⟨rx,wx,lo,hi⟩:=x;obtain ⟨ry,wy,lo',hi'⟩:=y;simp only at h1 h2;subst h1;subst h2;exact zec (fun f _=>by simp) (fun f _=>by simp) (fun f hf=>by simp at hf) (fun f hf=>by simp at hf)
theorem TW.draw (hE:zcm P Γ) {id:Nat} {ops:Array Oper} {Q:Exit→(Nat→T)→TS→Prop} (k:Nat) (outsP:List T) (own:List Nat) (outs:List (T×TS)) {h1:Nat→T} {ob1 ob2:Prop} (hd:zfl N ops.toList=true) (hok:zi1 k ops.toList=true)
    (hp:runP P Γ GL ops.toList (ops.toList.take k) h S outsP=some (ob1,h1)) (hob1:ob1) (hr:runT P Γ GL own ops.toList (ops.toList.drop k) h1 S outs=some (ob2,h',S')) (hob2:ob2) (hq:Q .normal h' S'):TW P Γ GL N (.region id ops true) h S Q:=fun A β fr s hF hT=>by
  have hsplit:ops.toList=ops.toList.take k++ops.toList.drop k:=(List.take_append_drop k _).symm
  have hdd:zfl N (ops.toList.take k)=true∧zfl N (ops.toList.drop k)=true:=by
    unfold zfl at hd ⊢;rw [hsplit,List.all_append,Bool.and_eq_true] at hd;exact hd
  have I0:zok GL ops.toList A β S s N [] h fr s:=by
    refine ⟨hF.nt,hF.le,hT,fun t=>⟨0,(hF.slot t).mono (fun f hf=>.inl hf) (fun _ _=>rfl) (Bx.le_refl _),fun j o _ _ _ m hm=>by simp at hm⟩,fun k x hx=>by simp at hx,fun k m x y _ hx=>by simp at hx,fun f hf=>(hT.dis f hf).1,hT.alt,?_,hT.le⟩;exact ⟨Can.refl _,fun _ h=>h,fun _ h=>.inl h,fun _ _=>rfl,fun _ h=>.inl h,fun _ h=>h⟩
  obtain ⟨M1,fr1,s1,d1,I1,m1⟩:=z3n hE hok I0 (fun j o hj=>by
    rw [List.length_nil,Nat.zero_add];rw [List.getElem?_take] at hj;split at hj
    · exact hj
    · simp at hj) hdd.1 hp hob1
  rw [List.nil_append] at I1
  -- behind the first part all may lean on all
  let D:Nat:=2 ^ M1.length - 1
  have hDall:∀ m,m<M1.length→Nat.testBit D m=true:=fun m hm=>by
    show Nat.testBit (2 ^ M1.length - 1) m=true;rw [Nat.testBit_two_pow_sub_one];exact decide_eq_true hm
  have hT1:TRel GL (SupL A M1 D) β S s1:=by
    refine I1.rel.more _ (fun f hf=>.inl hf) (fun f hf=>?_) (fun f hf ho=>?_)
    · rcases hf with q|⟨m,x,_,q2,_,q4⟩
      · exact I1.rel.alt f q
      · have:=(I1.log m x q2).2.2.1;omega
    · rcases hf with q|⟨m,x,_,q2,q3,q4⟩
      · exact (I1.rel.dis f ho).2 q
      · have:=(I1.log m x q2).1;have:=I1.own f ho;omega
  have hF1:FrOk (SupL A M1 D) β (zag s1.obj) N h1 fr1:=⟨I1.nt,I1.le,fun t=>by
    obtain ⟨E,e1,_⟩:=I1.slot t
    exact e1.mono (fun f hf=>SupL.sub (fun m hm _=>hDall m hm) hf) (fun _ _=>rfl) (Bx.le_refl _)⟩
  have hS1:Stp A β s (SupL A M1 D) β s1:=by
    refine ⟨I1.calm.can,fun f hf=>.inl hf,fun f hf=>?_,fun f hf=>.inl hf,fun f hf _=>I1.calm.keep f hf,Bx.le_refl _,I1.calm.rd,fun x hx=>.inl (I1.calm.wr x hx)⟩;rcases hf with q|⟨m,x,_,q2,q3,_⟩
    · exact .inl q
    · have:=(I1.log m x q2).1;exact .inr (.inl (by omega))
  obtain ⟨M2,fr2,s2,d2,L2⟩:=zwc hE hdd.2 hF1 hT1 hr hob2;have hdraw:=zjg d1 d2;rw [← hsplit] at hdraw;obtain ⟨f1,f2⟩:=zqy hdraw;refine W.draw hdraw ?_ ⟨h',S',Left.trans (h':=h) (fr':=fr) hT.le hS1 L2,hq⟩;refine zxd rfl (zmn fun i j x y hij _ hx hy=>?_);simp only [List.nil_append] at hx hy;have hjl:j<ops.toList.length:=by rw [← f1];exact (List.getElem?_eq_some_iff.1 hy).1
  have ho1:ops.toList[i]?=some (ops.toList[i]'(by omega)):=List.getElem?_eq_getElem _;have ho2:ops.toList[j]?=some (ops.toList[j]'hjl):=List.getElem?_eq_getElem _;by_cases hkj:k≤j
  · rcases z14 hok hij hkj ho1 ho2 with q|q|q
    · exact .inl q
    · obtain ⟨a,b,c⟩:=(f2 i _ x ho1 hx).1 q;exact .inr (zg9 a b c)
    · obtain ⟨a,b⟩:=(f2 j _ y ho2 hy).2 q;exact .inr (zg8 a b)
  · have hjM:j<M1.length:=by rw [m1,List.length_take];omega
    rw [List.getElem?_append_left (by omega)] at hx;rw [List.getElem?_append_left hjM] at hy;by_cases hbit:Nat.testBit (nth 0 (zcr ops.toList []) j) i=true
    · exact .inl hbit
    · right;obtain ⟨x1,x2,x3,x4,x5⟩:=I1.log i x hx;obtain ⟨y1,y2,y3,y4,y5⟩:=I1.log j y hy;obtain ⟨rx,wx,lo,hi⟩:=x;obtain ⟨ry,wy,lo',hi'⟩:=y;simp only at x1 x2 x3 x4 x5 y1 y2 y3 y4 y5;subst x4;subst y4;refine zec (fun f hf=>by simp at hf) (fun f _=>by simp) (fun f hf=>?_) (fun f hf=>by simp at hf);obtain ⟨g1,g2⟩:=y5 f hf;rcases g2 with (g2|⟨m,z,g3,g4,g5,g6⟩)|g2
      · have:=I1.base f g2;omega
      · by_cases hmi:m=i
        · subst hmi;exact absurd g3 hbit
        · by_cases hlt:m<i
          · have:=I1.apart m i z _ hlt g4 hx;simp only at this;omega
          · have:=I1.apart i m _ z (by omega) hx g4;simp only at this;omega
      · have:=I1.own f g2;omega
end
end
section
open Go Go.RowKit
section
variable {GL:List (Nat×List Value)} {P:Program} {Γ:Env} {own:List Nat} {ops l:List Oper} {h:Nat→T} {S:TS} {outs:List (T×TS)} {outsP:List T} {d:Option Tmp} {ty:TypeId} {pos:String} {e:Array Edge} {g:Option (Nat×Bool)}
noncomputable def yc5 {α:Type} (r:Option (T×TS)) (k:T→TS→Option α):Option α:=match r with
 |some (t,S)=>k t S
 |none=>none
noncomputable def zmr {α:Type} (b:Option Bool) (off on:Unit→Option α):Option α:=match b with
 |some true=>on ()
 |some false=>off ()
 |none=>none
theorem zxp {α:Type} (t:T) (S:TS) (k:T→TS→Option α):yc5 (some (t,S)) k=k t S:=Eq.trans rfl rfl
theorem ya8 {α:Type} (a b:Unit→Option α):zmr (some true) a b=b ():=Eq.trans rfl rfl
theorem z4w {α:Type} (a b:Unit→Option α):zmr (some false) a b=a ():=Eq.trans rfl rfl
noncomputable def zno (ops:List Oper) (h:Nat→T) (j:Nat):T:=match zk7 ops j with|some t=>h t|none=>.junk
noncomputable def zng (t:T) (w:Bool):Option Bool:=match t with|.bool b=>some (b == w)|.tup _=>some false|_=>none
theorem z7d {l:List T} {w:Bool}:zng (.tup l) w=some false:=Eq.trans rfl rfl
theorem zik {j:Nat} {w:Bool}:zhs ops h (some (j,w))=zng (zno ops h j) w:=by
 unfold zhs zno;simp only
 cases zk7 ops j with
 |none=>rfl
 |some t=>simp only;cases h t<;>rfl
theorem z7b:zng (.bool true) true=some true:=Eq.trans rfl rfl
theorem z7c:zng (.bool true) false=some false:=Eq.trans rfl rfl
theorem z7e:zng (.bool false) true=some false:=Eq.trans rfl rfl
theorem z7f:zng (.bool false) false=some true:=Eq.trans rfl rfl
theorem zt4 {t:Tmp} {op:Op}:zno (⟨some t,op,ty,pos,e,g⟩ :: l) h 0=h t:=Eq.trans rfl rfl
theorem zt5 {o:Oper} {n:Nat}:zno (o :: l) h (n+1)=zno l h n:=by
 unfold zno zk7;rw [List.getElem?_cons_succ]
theorem z28:runT P Γ GL own ops [] h S outs=some (True,h,S):=Eq.trans rfl rfl
theorem z3a:runP P Γ GL ops [] h S outsP=some (True,h):=Eq.trans rfl rfl
def zbr:Op→Bool
 |.call ⟨.value _,_,_⟩=>true
 |_=>false
noncomputable def yds (P:Program) (Γ:Env) (GL:List (Nat×List Value)) (own:List Nat) (ops l:List Oper) (outs:List (T×TS)) (h:Nat→T) (d:Option Tmp) (t:T) (S:TS):Option (Prop×(Nat→T)×TS):=runT P Γ GL own ops l (putT h d t) S outs
theorem z91 {t:T}:yds P Γ GL own ops l outs h d t S=runT P Γ GL own ops l (putT h d t) S outs:=Eq.trans rfl rfl
noncomputable def offT (P:Program) (Γ:Env) (GL:List (Nat×List Value)) (own:List Nat) (ops l:List Oper) (outs:List (T×TS)) (h:Nat→T) (d:Option Tmp) (S:TS) (_:Unit):Option (Prop×(Nat→T)×TS):=runT P Γ GL own ops l (putT h d (.tup [])) S outs
theorem yfw {u:Unit}:offT P Γ GL own ops l outs h d S u=runT P Γ GL own ops l (putT h d (.tup [])) S outs:=Eq.trans rfl rfl
noncomputable def ydp (P:Program) (Γ:Env) (GL:List (Nat×List Value)) (own:List Nat) (ops l:List Oper) (outs:List (T×TS)) (h:Nat→T) (S:TS) (o:Oper) (_:Unit):Option (Prop×(Nat→T)×TS):=yc5 (zd9 P Γ own (zda GL h) o S) (yds P Γ GL own ops l outs h o.dst)
theorem z9w {u:Unit} {op:Op}:ydp P Γ GL own ops l outs h S ⟨d,op,ty,pos,e,g⟩ u=yc5 (zd9 P Γ own (zda GL h) ⟨d,op,ty,pos,e,g⟩ S) (yds P Γ GL own ops l outs h d):=Eq.trans rfl rfl
theorem z29 {op:Op} (hc:zbr op=false):runT P Γ GL own ops (⟨d,op,ty,pos,e,g⟩ :: l) h S outs=zmr (zhs ops h g) (offT P Γ GL own ops l outs h d S) (ydp P Γ GL own ops l outs h S ⟨d,op,ty,pos,e,g⟩):=by
 rw [runT];simp only
 cases hg:zhs ops h g with
 |none=>rfl
 |some b =>
  cases b with
  |false=>rfl
  |true =>
   simp only [zmr,ydp]
   cases hs:zd9 P Γ own (zda GL h) ⟨d,op,ty,pos,e,g⟩ S with
   |none =>
    cases op with
    |call c =>
     obtain ⟨cal,args,tys⟩:=c
     cases cal with
     |value f=>simp [zbr] at hc
     |_=>rfl
    |_=>rfl
   |some r =>
    cases op with
    |call c =>
     obtain ⟨cal,args,tys⟩:=c
     cases cal with
     |value f=>simp [zbr] at hc
     |_=>rfl
    |_=>rfl
theorem z80 {op:Op} (hc:zbr op=false):runT P Γ GL own ops (⟨d,op,ty,pos,e,none⟩ :: l) h S outs=yc5 (zd9 P Γ own (zda GL h) ⟨d,op,ty,pos,e,none⟩ S) (yds P Γ GL own ops l outs h d):=by
 rw [z29 hc];rfl
theorem z81 {op:Op} {j:Nat} {w:Bool} (hc:zbr op=false):runT P Γ GL own ops (⟨d,op,ty,pos,e,some (j,w)⟩ :: l) h S outs=zmr (zng (zno ops h j) w) (offT P Γ GL own ops l outs h d S) (ydp P Γ GL own ops l outs h S ⟨d,op,ty,pos,e,some (j,w)⟩):=by
 rw [z29 hc,zik]
noncomputable def yd7 (p:Option Prop) (k:Option (Prop×(Nat→T)×TS)):Option (Prop×(Nat→T)×TS):=match p,k with
 |some p,some (q,h,S)=>some (p∧q,h,S)
 |_,_=>none
theorem zy8 {p q:Prop}:yd7 (some p) (some (q,h,S))=some (p∧q,h,S):=Eq.trans rfl rfl
noncomputable def yes (P:Program) (Γ:Env) (GL:List (Nat×List Value)) (own:List Nat) (ops l:List Oper) (outs:List (T×TS)) (h:Nat→T) (S:TS) (d:Option Tmp) (f:Operand) (args:List Operand) (r:T×TS) (_:Unit):Option (Prop×(Nat→T)×TS):=yd7 (zxe P Γ GL S (args.map (zda GL h)) (zda GL h f) r) (runT P Γ GL own ops l (putT h d r.1) r.2 outs)
theorem z5v {u:Unit} {f:Operand} {args:List Operand} {r:T×TS}:yes P Γ GL own ops l outs h S d f args r u=yd7 (zxe P Γ GL S (args.map (zda GL h)) (zda GL h f) r) (runT P Γ GL own ops l (putT h d r.1) r.2 outs):=Eq.trans rfl rfl
theorem zud {f:Operand} {args:Array Operand} {tys:Array TypeId} {r:T×TS}:runT P Γ GL own ops (⟨d,.call ⟨.value f,args,tys⟩,ty,pos,e,g⟩ :: l) h S (r :: outs)=zmr (zhs ops h g) (offT P Γ GL own ops l (r :: outs) h d S) (yes P Γ GL own ops l outs h S d f args.toList r):=by
 rw [runT];simp only
 cases hg:zhs ops h g with
 |none=>rfl
 |some b =>
  cases b with
  |false=>rfl
  |true =>
   simp only [zmr,yes]
   cases zxe P Γ GL S (args.toList.map (zda GL h)) (zda GL h f) r with
   |none=>rfl
   |some p=>cases runT P Γ GL own ops l (putT h d r.1) r.2 outs<;>rfl
theorem zyb {f:Operand} {args:Array Operand} {tys:Array TypeId} {r:T×TS}:runT P Γ GL own ops (⟨d,.call ⟨.value f,args,tys⟩,ty,pos,e,none⟩ :: l) h S (r :: outs)=yd7 (zxe P Γ GL S (args.toList.map (zda GL h)) (zda GL h f) r) (runT P Γ GL own ops l (putT h d r.1) r.2 outs):=by
 rw [zud];rfl
theorem zrw {f:Operand} {args:Array Operand} {tys:Array TypeId} {r:T×TS} {j:Nat} {w:Bool}:runT P Γ GL own ops (⟨d,.call ⟨.value f,args,tys⟩,ty,pos,e,some (j,w)⟩ :: l) h S (r :: outs)=zmr (zng (zno ops h j) w) (offT P Γ GL own ops l (r :: outs) h d S) (yes P Γ GL own ops l outs h S d f args.toList r):=by
 rw [zud,zik]
theorem zrv {f:Operand} {args:Array Operand} {tys:Array TypeId} {j:Nat} {w:Bool}:runT P Γ GL own ops (⟨d,.call ⟨.value f,args,tys⟩,ty,pos,e,some (j,w)⟩ :: l) h S []=zmr (zng (zno ops h j) w) (offT P Γ GL own ops l [] h d S) (fun _=>none):=by
 rw [runT];simp only [zik]
 cases zng (zno ops h j) w with
 |none=>rfl
 |some b=>cases b<;>rfl
theorem z5q {k:Nat} {first cap args:List T} {r:T×TS}:zxe P Γ GL S args (.fn k first cap) r=some (Call P Γ GL k (first++args++cap) S r.1 r.2):=Eq.trans rfl rfl
noncomputable def yc6 {α:Type} (r:Option T) (k:T→Option α):Option α:=match r with
 |some t=>k t
 |none=>none
theorem ztz {α:Type} (t:T) (k:T→Option α):yc6 (some t) k=k t:=Eq.trans rfl rfl
noncomputable def ydt (P:Program) (Γ:Env) (GL:List (Nat×List Value)) (ops l:List Oper) (outs:List T) (h:Nat→T) (d:Option Tmp) (S:TS) (t:T):Option (Prop×(Nat→T)):=runP P Γ GL ops l (putT h d t) S outs
theorem z33 {t:T}:ydt P Γ GL ops l outsP h d S t=runP P Γ GL ops l (putT h d t) S outsP:=Eq.trans rfl rfl
noncomputable def offP (P:Program) (Γ:Env) (GL:List (Nat×List Value)) (ops l:List Oper) (outs:List T) (h:Nat→T) (d:Option Tmp) (S:TS) (_:Unit):Option (Prop×(Nat→T)):=runP P Γ GL ops l (putT h d (.tup [])) S outs
theorem z9y {u:Unit}:offP P Γ GL ops l outsP h d S u=runP P Γ GL ops l (putT h d (.tup [])) S outsP:=Eq.trans rfl rfl
noncomputable def ydq (P:Program) (Γ:Env) (GL:List (Nat×List Value)) (ops l:List Oper) (outs:List T) (h:Nat→T) (S:TS) (o:Oper) (_:Unit):Option (Prop×(Nat→T)):=yc6 (zek P Γ (zda GL h) o S) (ydt P Γ GL ops l outs h o.dst S)
theorem z3y {u:Unit} {op:Op}:ydq P Γ GL ops l outsP h S ⟨d,op,ty,pos,e,g⟩ u=yc6 (zek P Γ (zda GL h) ⟨d,op,ty,pos,e,g⟩ S) (ydt P Γ GL ops l outsP h d S):=Eq.trans rfl rfl
theorem z3b {op:Op} (hc:zbr op=false):runP P Γ GL ops (⟨d,op,ty,pos,e,g⟩ :: l) h S outsP=zmr (zhs ops h g) (offP P Γ GL ops l outsP h d S) (ydq P Γ GL ops l outsP h S ⟨d,op,ty,pos,e,g⟩):=by
 rw [runP];simp only
 cases hg:zhs ops h g with
 |none=>rfl
 |some b =>
  cases b with
  |false=>rfl
  |true =>
   simp only [zmr,ydq]
   cases hs:zek P Γ (zda GL h) ⟨d,op,ty,pos,e,g⟩ S with
   |none =>
    cases op with
    |call c =>
     obtain ⟨cal,args,tys⟩:=c
     cases cal with
     |value f=>simp [zbr] at hc
     |_=>rfl
    |_=>rfl
   |some r =>
    cases op with
    |call c =>
     obtain ⟨cal,args,tys⟩:=c
     cases cal with
     |value f=>simp [zbr] at hc
     |_=>rfl
    |_=>rfl
theorem z82 {op:Op} (hc:zbr op=false):runP P Γ GL ops (⟨d,op,ty,pos,e,none⟩ :: l) h S outsP=yc6 (zek P Γ (zda GL h) ⟨d,op,ty,pos,e,none⟩ S) (ydt P Γ GL ops l outsP h d S):=by
 rw [z3b hc];rfl
theorem z83 {op:Op} {j:Nat} {w:Bool} (hc:zbr op=false):runP P Γ GL ops (⟨d,op,ty,pos,e,some (j,w)⟩ :: l) h S outsP=zmr (zng (zno ops h j) w) (offP P Γ GL ops l outsP h d S) (ydq P Γ GL ops l outsP h S ⟨d,op,ty,pos,e,some (j,w)⟩):=by
 rw [z3b hc,zik]
noncomputable def yd8 (p:Option Prop) (k:Option (Prop×(Nat→T))):Option (Prop×(Nat→T)):=match p,k with
 |some p,some (q,h)=>some (p∧q,h)
 |_,_=>none
theorem zuu {p q:Prop}:yd8 (some p) (some (q,h))=some (p∧q,h):=Eq.trans rfl rfl
noncomputable def z5u (P:Program) (Γ:Env) (GL:List (Nat×List Value)) (ops l:List Oper) (outs:List T) (h:Nat→T) (S:TS) (d:Option Tmp) (f:Operand) (args:List Operand) (r:T) (_:Unit):Option (Prop×(Nat→T)):=yd8 (z2c P Γ GL S (args.map (zda GL h)) (zda GL h f) r) (runP P Γ GL ops l (putT h d r) S outs)
theorem z0i {u:Unit} {f:Operand} {args:List Operand} {r:T}:z5u P Γ GL ops l outsP h S d f args r u=yd8 (z2c P Γ GL S (args.map (zda GL h)) (zda GL h f) r) (runP P Γ GL ops l (putT h d r) S outsP):=Eq.trans rfl rfl
theorem zue {f:Operand} {args:Array Operand} {tys:Array TypeId} {r:T}:runP P Γ GL ops (⟨d,.call ⟨.value f,args,tys⟩,ty,pos,e,g⟩ :: l) h S (r :: outsP)=zmr (zhs ops h g) (offP P Γ GL ops l (r :: outsP) h d S) (z5u P Γ GL ops l outsP h S d f args.toList r):=by
 rw [runP];simp only
 cases hg:zhs ops h g with
 |none=>rfl
 |some b =>
  cases b with
  |false=>rfl
  |true =>
   simp only [zmr,z5u]
   cases z2c P Γ GL S (args.toList.map (zda GL h)) (zda GL h f) r with
   |none=>rfl
   |some p=>cases runP P Γ GL ops l (putT h d r) S outsP<;>rfl
theorem zyc {f:Operand} {args:Array Operand} {tys:Array TypeId} {r:T}:runP P Γ GL ops (⟨d,.call ⟨.value f,args,tys⟩,ty,pos,e,none⟩ :: l) h S (r :: outsP)=yd8 (z2c P Γ GL S (args.toList.map (zda GL h)) (zda GL h f) r) (runP P Γ GL ops l (putT h d r) S outsP):=by
 rw [zue];rfl
theorem zry {f:Operand} {args:Array Operand} {tys:Array TypeId} {r:T} {j:Nat} {w:Bool}:runP P Γ GL ops (⟨d,.call ⟨.value f,args,tys⟩,ty,pos,e,some (j,w)⟩ :: l) h S (r :: outsP)=zmr (zng (zno ops h j) w) (offP P Γ GL ops l (r :: outsP) h d S) (z5u P Γ GL ops l outsP h S d f args.toList r):=by
 rw [zue,zik]
theorem zrx {f:Operand} {args:Array Operand} {tys:Array TypeId} {j:Nat} {w:Bool}:runP P Γ GL ops (⟨d,.call ⟨.value f,args,tys⟩,ty,pos,e,some (j,w)⟩ :: l) h S []=zmr (zng (zno ops h j) w) (offP P Γ GL ops l [] h d S) (fun _=>none):=by
 rw [runP];simp only [zik]
 cases zng (zno ops h j) w with
 |none=>rfl
 |some b=>cases b<;>rfl
theorem z5t {k:Nat} {first cap args:List T} {r:T}:z2c P Γ GL S args (.fn k first cap) r=some (za1 P Γ GL k (first++args++cap) S r):=Eq.trans rfl rfl
theorem zca {t u:Nat} {v:T}:tupd h t v u=if u=t then v else h u:=Eq.trans rfl rfl
theorem z9n {t:Tmp} {v:T}:putT h (some t) v=tupd h t v:=Eq.trans rfl rfl
theorem z9o {v:T}:putT h none v=h:=Eq.trans rfl rfl
theorem zu4 {t:Tmp}:zda GL h (.tmp t)=h t:=Eq.trans rfl rfl
theorem zmk {v:Value}:zda GL h (.const v)=zly v:=Eq.trans rfl rfl
theorem ybo {f:Nat}:zda GL h (.func f)=.fn f [] []:=Eq.trans rfl rfl
theorem zzp {f:Nat}:zda GL h (.global f)=ya4 GL f:=Eq.trans rfl rfl
theorem yfz {k:IntKind} {n:Int}:zly (.int k n)=.int k n:=Eq.trans rfl rfl
theorem zo4 {b:Bool}:zly (.bool b)=.bool b:=Eq.trans rfl rfl
theorem yfy {b:ByteArray}:zly (.string b)=.str b:=Eq.trans rfl rfl
theorem yai:zly (.slice none 0 0)=.nils:=Eq.trans rfl rfl
theorem yaj:zly (.pointer none)=.nilp:=Eq.trans rfl rfl
theorem yak:zly (.map none)=.nilm:=Eq.trans rfl rfl
theorem yal:zly .nilFunc=.nilf:=Eq.trans rfl rfl
theorem ztv {t:T}:zfm S (some t)=some (t,S):=Eq.trans rfl rfl
theorem ztw:zvp (some S)=some (.junk,S):=Eq.trans rfl rfl
-- which operations are calls
theorem yay {x}:zbr (.move x)=false:=Eq.trans rfl rfl
theorem zzc {x}:zbr (.assign x)=false:=Eq.trans rfl rfl
theorem yax {a b c}:zbr (.pick a b c)=false:=Eq.trans rfl rfl
theorem z4n {x}:zbr (.alloc x)=false:=Eq.trans rfl rfl
theorem yf4 {x y}:zbr (.box x y)=false:=Eq.trans rfl rfl
theorem z4m {x y}:zbr (.build x y)=false:=Eq.trans rfl rfl
theorem zn2 {x y z}:zbr (.buildSlice x y z)=false:=Eq.trans rfl rfl
theorem yaz {x y}:zbr (.load x y)=false:=Eq.trans rfl rfl
theorem z4i {x y z}:zbr (.store x y z)=false:=Eq.trans rfl rfl
theorem zsm {x}:zbr (.nilCheck x)=false:=Eq.trans rfl rfl
theorem yf5 {x y z w v}:zbr (.binOp x y z w v)=false:=Eq.trans rfl rfl
theorem ykg {x y z}:zbr (.unOp x y z)=false:=Eq.trans rfl rfl
theorem ya0 {x y z}:zbr (.convert x y z)=false:=Eq.trans rfl rfl
theorem yf3 {x y}:zbr (.sliceToArrayPointer x y)=false:=Eq.trans rfl rfl
theorem zsn {x y z}:zbr (.makeFunc x y z)=false:=Eq.trans rfl rfl
theorem zza {x y z w}:zbr (.lookup x y z w)=false:=Eq.trans rfl rfl
theorem zuw {x y}:zbr (.makeMap x y)=false:=Eq.trans rfl rfl
theorem zp1 {x y z w}:zbr (.mapUpdate x y z w)=false:=Eq.trans rfl rfl
theorem zzb {x y z w}:zbr (.insert x y z w)=false:=Eq.trans rfl rfl
theorem zp2 {x y z}:zbr (.makeSlice x y z)=false:=Eq.trans rfl rfl
theorem z4j {x y z w v}:zbr (.slice x y z w v)=false:=Eq.trans rfl rfl
theorem zp4 {x y z}:zbr (.fieldAddr x y z)=false:=Eq.trans rfl rfl
theorem z4l {x y z}:zbr (.field x y z)=false:=Eq.trans rfl rfl
theorem zp3 {x y z}:zbr (.indexAddr x y z)=false:=Eq.trans rfl rfl
theorem z4k {x y z}:zbr (.index x y z)=false:=Eq.trans rfl rfl
theorem zux {x y}:zbr (.extract x y)=false:=Eq.trans rfl rfl
theorem zuy {b x y}:zbr (.call ⟨.builtin b,x,y⟩)=false:=Eq.trans rfl rfl
variable {ρ:Operand→T} {t t2:TypeId} {x y z:Operand}
theorem z8q  : zd9 P Γ own ρ ⟨d,.move x,ty,pos,e,g⟩ S=zfm S (some (ρ x)):=Eq.trans rfl rfl
theorem z8u  : zek P Γ ρ ⟨d,.move x,ty,pos,e,g⟩ S=some (ρ x):=Eq.trans rfl rfl
theorem zx5  : zd9 P Γ own ρ ⟨d,.assign x,ty,pos,e,g⟩ S=zfm S (some (ρ x)):=Eq.trans rfl rfl
theorem zx8  : zek P Γ ρ ⟨d,.assign x,ty,pos,e,g⟩ S=some (ρ x):=Eq.trans rfl rfl
theorem z8r  : zd9 P Γ own ρ ⟨d,.load t x,ty,pos,e,g⟩ S=zfm S (zrg Γ S t (ρ x)):=Eq.trans rfl rfl
theorem z8x  : zek P Γ ρ ⟨d,.load t x,ty,pos,e,g⟩ S=zrg Γ S t (ρ x):=Eq.trans rfl rfl
theorem zrp  : zd9 P Γ own ρ ⟨d,.nilCheck x,ty,pos,e,g⟩ S=zfm S (zev S (ρ x)):=Eq.trans rfl rfl
theorem zrr  : zek P Γ ρ ⟨d,.nilCheck x,ty,pos,e,g⟩ S=zev S (ρ x):=Eq.trans rfl rfl
theorem ye9  : zd9 P Γ own ρ ⟨d,.sliceToArrayPointer t x,ty,pos,e,g⟩ S=zfm S (tS2A Γ S t (ρ x)):=Eq.trans rfl rfl
theorem yff  : zek P Γ ρ ⟨d,.sliceToArrayPointer t x,ty,pos,e,g⟩ S=tS2A Γ S t (ρ x):=Eq.trans rfl rfl
theorem zpt {k:Nat}:zd9 P Γ own ρ ⟨d,.fieldAddr t x k,ty,pos,e,g⟩ S=zfm S (zju Γ S t k (ρ x)):=Eq.trans rfl rfl
theorem zpv {k:Nat}:zek P Γ ρ ⟨d,.fieldAddr t x k,ty,pos,e,g⟩ S=zju Γ S t k (ρ x):=Eq.trans rfl rfl
theorem z20 {k:Nat}:zd9 P Γ own ρ ⟨d,.field t x k,ty,pos,e,g⟩ S=zfm S (zxr Γ t k (ρ x)):=Eq.trans rfl rfl
theorem z26 {k:Nat}:zek P Γ ρ ⟨d,.field t x k,ty,pos,e,g⟩ S=zxr Γ t k (ρ x):=Eq.trans rfl rfl
theorem zps  : zd9 P Γ own ρ ⟨d,.indexAddr t x y,ty,pos,e,g⟩ S=zfm S (zg0 Γ S t (ρ x) (ρ y)):=Eq.trans rfl rfl
theorem zpu  : zek P Γ ρ ⟨d,.indexAddr t x y,ty,pos,e,g⟩ S=zg0 Γ S t (ρ x) (ρ y):=Eq.trans rfl rfl
theorem z2z  : zd9 P Γ own ρ ⟨d,.index t x y,ty,pos,e,g⟩ S=zfm S (zrh Γ t (ρ x) (ρ y)):=Eq.trans rfl rfl
theorem z25  : zek P Γ ρ ⟨d,.index t x y,ty,pos,e,g⟩ S=zrh Γ t (ρ x) (ρ y):=Eq.trans rfl rfl
theorem zua {k:Nat}:zd9 P Γ own ρ ⟨d,.extract x k,ty,pos,e,g⟩ S=zfm S (zke k (ρ x)):=Eq.trans rfl rfl
theorem zub {k:Nat}:zek P Γ ρ ⟨d,.extract x k,ty,pos,e,g⟩ S=zke k (ρ x):=Eq.trans rfl rfl
theorem yjx {u:UnOp}:zd9 P Γ own ρ ⟨d,.unOp u t x,ty,pos,e,g⟩ S=zfm S (tUn u (ρ x)):=Eq.trans rfl rfl
theorem yjy {u:UnOp}:zek P Γ ρ ⟨d,.unOp u t x,ty,pos,e,g⟩ S=tUn u (ρ x):=Eq.trans rfl rfl
theorem yfe {b:BinOp}:zd9 P Γ own ρ ⟨d,.binOp b t x y t2,ty,pos,e,g⟩ S=zfm S (tBin P Γ S t b x y (ρ x) (ρ y)):=Eq.trans rfl rfl
theorem yfh {b:BinOp}:zek P Γ ρ ⟨d,.binOp b t x y t2,ty,pos,e,g⟩ S=tBin P Γ S t b x y (ρ x) (ρ y):=Eq.trans rfl rfl
theorem z21 {parts:Array (Nat×Operand)}:zd9 P Γ own ρ ⟨d,.build t parts,ty,pos,e,g⟩ S=zfm S (zpk Γ ρ t parts.toList):=Eq.trans rfl rfl
theorem z27 {parts:Array (Nat×Operand)}:zek P Γ ρ ⟨d,.build t parts,ty,pos,e,g⟩ S=zpk Γ ρ t parts.toList:=Eq.trans rfl rfl
theorem z2y {lo hi mx:Option Operand}:zd9 P Γ own ρ ⟨d,.slice t x lo hi mx,ty,pos,e,g⟩ S=zfm S (zrf Γ S t (ρ x) (lo.map ρ) (hi.map ρ) (mx.map ρ)):=Eq.trans rfl rfl
theorem z24 {lo hi mx:Option Operand}:zek P Γ ρ ⟨d,.slice t x lo hi mx,ty,pos,e,g⟩ S=zrf Γ S t (ρ x) (lo.map ρ) (hi.map ρ) (mx.map ρ):=Eq.trans rfl rfl
theorem zrq {f:Nat} {a c:Array Operand}:zd9 P Γ own ρ ⟨d,.makeFunc (.func f) a c,ty,pos,e,g⟩ S=zfm S (some (.fn f (a.toList.map ρ) (c.toList.map ρ))):=Eq.trans rfl rfl
theorem zrs {f:Nat} {a c:Array Operand}:zek P Γ ρ ⟨d,.makeFunc (.func f) a c,ty,pos,e,g⟩ S=some (.fn f (a.toList.map ρ) (c.toList.map ρ)):=Eq.trans rfl rfl
noncomputable def ydn (c a b:T):Option T:=match c with|.bool t=>some (bif t then a else b)|_=>none
theorem z9k {a b:T}:ydn (.bool true) a b=some a:=Eq.trans rfl rfl
theorem z9l {a b:T}:ydn (.bool false) a b=some b:=Eq.trans rfl rfl
theorem z1a:zek P Γ ρ ⟨d,.pick z x y,ty,pos,e,g⟩ S=ydn (ρ z) (ρ x) (ρ y):=by
 show (match ρ z with|.bool t=>some (bif t then ρ x else ρ y)|_=>none)=_;cases ρ z<;>rfl
theorem z8p:zd9 P Γ own ρ ⟨d,.pick z x y,ty,pos,e,g⟩ S=zfm S (ydn (ρ z) (ρ x) (ρ y)):=by
 show zfm S (zek P Γ ρ ⟨d,.pick z x y,ty,pos,e,g⟩ S)=_;rw [z1a]
theorem z22:zd9 P Γ own ρ ⟨d,.alloc t,ty,pos,e,g⟩ S=zt2 Γ S t:=Eq.trans rfl rfl
theorem yfd:zd9 P Γ own ρ ⟨d,.box t x,ty,pos,e,g⟩ S=tBox S (ρ x):=Eq.trans rfl rfl
theorem z2x:zd9 P Γ own ρ ⟨d,.store t x y,ty,pos,e,g⟩ S=zvp (zt1 Γ S t (ρ y) (ρ x)):=Eq.trans rfl rfl
theorem zx3 {k:Operand} {ok:Bool}:zd9 P Γ own ρ ⟨d,.lookup t x k ok,ty,pos,e,g⟩ S=zfm S (zew Γ S t (ρ x) (ρ k) ok):=Eq.trans rfl rfl
theorem zx7 {k:Operand} {ok:Bool}:zek P Γ ρ ⟨d,.lookup t x k ok,ty,pos,e,g⟩ S=zew Γ S t (ρ x) (ρ k) ok:=Eq.trans rfl rfl
theorem zt9:zd9 P Γ own ρ ⟨d,.makeMap t none,ty,pos,e,g⟩ S=zdh S:=Eq.trans rfl rfl
theorem zpq {k v:Operand}:zd9 P Γ own ρ ⟨d,.mapUpdate t x k v,ty,pos,e,g⟩ S=zvp (zbb Γ S t (ρ k) (ρ v) (ρ x)):=Eq.trans rfl rfl
theorem zx4 {k v:Operand}:zd9 P Γ own ρ ⟨d,.insert t x k v,ty,pos,e,g⟩ S=zvp (zbb Γ S t (ρ k) (ρ v) (ρ x)):=Eq.trans rfl rfl
theorem zpr:zd9 P Γ own ρ ⟨d,.makeSlice t x y,ty,pos,e,g⟩ S=zic Γ S t (ρ x) (ρ y):=Eq.trans rfl rfl
theorem z8t:zd9 P Γ own ρ ⟨d,.convert t t2 x,ty,pos,e,g⟩ S=bif ownD own d then zl9 Γ S t t2 (ρ x) else zfm S (zpi Γ S t t2 (ρ x)):=Eq.trans rfl rfl
theorem z8y:zek P Γ ρ ⟨d,.convert t t2 x,ty,pos,e,g⟩ S=zpi Γ S t t2 (ρ x):=Eq.trans rfl rfl
theorem zfh {n:Nat} {parts:Array (Nat×Operand)}:zd9 P Γ own ρ ⟨d,.buildSlice t n parts,ty,pos,e,g⟩ S=bif ownD own d then zcg Γ S ρ t n parts.toList else zfm S (zar Γ ρ t n parts.toList):=Eq.trans rfl rfl
theorem zfi {n:Nat} {parts:Array (Nat×Operand)}:zek P Γ ρ ⟨d,.buildSlice t n parts,ty,pos,e,g⟩ S=zar Γ ρ t n parts.toList:=Eq.trans rfl rfl
theorem yfg:zek P Γ ρ ⟨d,.call ⟨.builtin .len,#[x],#[t]⟩,ty,pos,e,g⟩ S=tLen Γ S t (ρ x):=Eq.trans rfl rfl
theorem yfc:zd9 P Γ own ρ ⟨d,.call ⟨.builtin .len,#[x],#[t]⟩,ty,pos,e,g⟩ S=zfm S (tLen Γ S t (ρ x)):=Eq.trans rfl rfl
theorem zx6:zd9 P Γ own ρ ⟨d,.call ⟨.builtin .append,#[x,y],#[t,t2]⟩,ty,pos,e,g⟩ S=bif srcT Γ t2 then zoq Γ S t (ρ y) (ρ x) else none:=Eq.trans rfl rfl
theorem z8s:zd9 P Γ own ρ ⟨d,.call ⟨.builtin .copy,#[x,y],#[t,t2]⟩,ty,pos,e,g⟩ S=z7u Γ S t (ρ y) (ρ x):=Eq.trans rfl rfl
noncomputable def minT (a b:T):Option T:=match a,b with|.int k a,.int _ b=>some (.int k (min a b))|_,_=>none
noncomputable def maxT (a b:T):Option T:=match a,b with|.int k a,.int _ b=>some (.int k (max a b))|_,_=>none
theorem z36 {k k':IntKind} {a b:Int}:minT (.int k a) (.int k' b)=some (.int k (min a b)):=Eq.trans rfl rfl
theorem z37 {k k':IntKind} {a b:Int}:maxT (.int k a) (.int k' b)=some (.int k (max a b)):=Eq.trans rfl rfl
theorem z8v {tys:Array TypeId}:zek P Γ ρ ⟨d,.call ⟨.builtin .min,#[x,y],tys⟩,ty,pos,e,g⟩ S=minT (ρ x) (ρ y):=by
 show (match ρ x,ρ y with|.int k a,.int _ b=>some (T.int k (min a b))|_,_=>none)=_;cases ρ x<;>cases ρ y<;>rfl
theorem yfa {tys:Array TypeId}:zd9 P Γ own ρ ⟨d,.call ⟨.builtin .min,#[x,y],tys⟩,ty,pos,e,g⟩ S=zfm S (minT (ρ x) (ρ y)):=by
 show zfm S (zek P Γ ρ ⟨d,.call ⟨.builtin .min,#[x,y],tys⟩,ty,pos,e,g⟩ S)=_;rw [z8v]
theorem z8w {tys:Array TypeId}:zek P Γ ρ ⟨d,.call ⟨.builtin .max,#[x,y],tys⟩,ty,pos,e,g⟩ S=maxT (ρ x) (ρ y):=by
 show (match ρ x,ρ y with|.int k a,.int _ b=>some (T.int k (max a b))|_,_=>none)=_;cases ρ x<;>cases ρ y<;>rfl
theorem yfb {tys:Array TypeId}:zd9 P Γ own ρ ⟨d,.call ⟨.builtin .max,#[x,y],tys⟩,ty,pos,e,g⟩ S=zfm S (maxT (ρ x) (ρ y)):=by
 show zfm S (zek P Γ ρ ⟨d,.call ⟨.builtin .max,#[x,y],tys⟩,ty,pos,e,g⟩ S)=_;rw [z8w]
theorem ye4 {b:BinOp} {k k':IntKind} {m n:Int}:tBin P Γ S t b x y (.int k m) (.int k' n)=zbx b k k' m n:=Eq.trans rfl rfl
theorem ye3 {b:BinOp} {m n:ByteArray}:tBin P Γ S t b x y (.str m) (.str n)=zrj b m n:=Eq.trans rfl rfl
theorem ye7 {m n:ByteArray}:zrj .eql m n=some (.bool (decide (m=n))):=Eq.trans rfl rfl
theorem ye6 {m n:ByteArray}:zrj .neq m n=some (.bool (!decide (m=n))):=Eq.trans rfl rfl
theorem ye1 {b:Bool}:tUn .not (.bool b)=some (.bool (!b)):=Eq.trans rfl rfl
theorem ye2 {k:IntKind} {n:Int}:tUn .neg (.int k n)=some (.int k (k.wrap (0 - n))):=Eq.trans rfl rfl
end
section
variable {k:IntKind} {a b:Int}
theorem ygi:zbx .add k k a b=some (.int k (k.wrap (a+b))):=by simp [zbx]
theorem yf7:zbx .sub k k a b=some (.int k (k.wrap (a - b))):=by simp [zbx]
theorem ygb:zbx .mul k k a b=some (.int k (k.wrap (a*b))):=by simp [zbx]
theorem ygg:zbx .eql k k a b=some (.bool (decide (a=b))):=by simp [zbx]
theorem yga:zbx .neq k k a b=some (.bool (decide (a≠b))):=by simp [zbx]
theorem ygc:zbx .lss k k a b=some (.bool (decide (a<b))):=by simp [zbx]
theorem ygd:zbx .leq k k a b=some (.bool (decide (a≤b))):=by simp [zbx]
theorem yge:zbx .gtr k k a b=some (.bool (decide (b<a))):=by simp [zbx]
theorem ygf:zbx .geq k k a b=some (.bool (decide (b≤a))):=by simp [zbx]
theorem z4p (ha:0≤a) (hb:0<b):zbx .quo k k a b=some (.int k (k.wrap (a / b))):=by
 simp only [zbx,Nat.beq_refl,cond_true];rw [if_neg (by omega),Int.tdiv_eq_ediv_of_nonneg ha]
theorem z4o (ha:0≤a) (hb:0<b):zbx .rem k k a b=some (.int k (a % b)):=by
 simp only [zbx,Nat.beq_refl,cond_true];rw [if_neg (by omega),Int.tmod_eq_emod_of_nonneg ha]
theorem ygh:zbx .and k k a b=some (.int k (k.wrap (BitVec.ofInt k.bits a &&& BitVec.ofInt k.bits b).toNat)):=by simp [zbx]
theorem ykh:zbx .or k k a b=some (.int k (k.wrap (BitVec.ofInt k.bits a ||| BitVec.ofInt k.bits b).toNat)):=by simp [zbx]
theorem yf6:zbx .xor k k a b=some (.int k (k.wrap (BitVec.ofInt k.bits a ^^^ BitVec.ofInt k.bits b).toNat)):=by simp [zbx]
theorem yf9 {k':IntKind} (hb:0≤b):zbx .shl k k' a b=some (.int k (k.wrap (a*2 ^ (min b.toNat k.bits)))):=by simp [zbx,hb]
theorem yf8 {k':IntKind} (hb:0≤b):zbx .shr k k' a b=some (.int k (a.fdiv (2 ^ (min b.toNat k.bits)))):=by simp [zbx,hb]
theorem z95 {n:Int} (h:0≤n):natT (.int k n)=some n.toNat:=by
 obtain ⟨m,rfl⟩:=Int.eq_ofNat_of_zero_le h;rfl
theorem z96 {n:Int} (h:0≤n):zet (.int k n)=some n.toNat:=by
 obtain ⟨m,rfl⟩:=Int.eq_ofNat_of_zero_le h;rfl
theorem zuj {n:Int}:zdo (.int k n)=.int k n:=Eq.trans rfl rfl
theorem zqv {α:Type} [Inhabited α] {L:List α} {n:Nat} (h:n<L.length):L[n]?=some (L.getD n default):=by
 rw [List.getD_eq_getElem?_getD,List.getElem?_eq_getElem h];rfl
def stL (l:List Box):TS:=⟨l.length,fun i=>l.getD i .gone⟩
theorem z2l:ts0=stL []:=rfl
theorem st_n (l:List Box):(stL l).n=l.length:=rfl
theorem ye5 (l:List Box) (i:Nat):(stL l).box i=l.getD i .gone:=rfl
theorem zxu (l:List Box) (x:Box):(stL l).add x=stL (l++[x]):=by
 unfold stL TS.add;simp only [List.length_append,List.length_cons,List.length_nil];congr 1;funext i;by_cases hi:i<l.length
 ·rw [if_neg (by omega),List.getD_eq_getElem?_getD,List.getD_eq_getElem?_getD,List.getElem?_append_left hi]
 ·by_cases he:i=l.length
  ·subst he;rw [if_pos rfl];simp
  ·rw [if_neg he,List.getD_eq_getElem?_getD,List.getD_eq_getElem?_getD,List.getElem?_eq_none (by omega),List.getElem?_eq_none (by simp;omega)]
theorem zhi (l:List Box) (b:Nat) (x:Box) (h:b<l.length):(stL l).set b x=stL (l.set b x):=by
 unfold stL TS.set;simp only [List.length_set];congr 1;funext i;rw [List.getD_eq_getElem?_getD,List.getD_eq_getElem?_getD,List.getElem?_set];by_cases hi:i=b
 ·subst hi;rw [if_pos rfl,if_pos rfl,if_pos h];rfl
 ·rw [if_neg hi,if_neg (fun hh=>hi hh.symm)]
theorem zzf {α:Type} (x d:α) (l:List α):(x :: l).getD 0 d=x:=rfl
theorem zzg {α:Type} (x d:α) (l:List α) (n:Nat):(x :: l).getD (n+1) d=l.getD n d:=rfl
end
end
section
open Go Go.RowKit
def zwp (l:List Nat) (h:Nat→T):Nat→T:=fun t=>if t∈l then h t else .junk
def zhv:List Nat→Nat→(Nat→T)→Prop
  |[],_,_=>True
  |t :: l,n,h=>(h t).ids n=true∧zhv l n h
theorem zm8 {n:Nat} {h:Nat→T}:∀ {l:List Nat},zhv l n h→∀ t,t∈l→(h t).ids n=true
  |[],_,t,ht=>by simp at ht
  |x :: l,k,t,ht=>by
    rcases List.mem_cons.1 ht with rfl|ht
    · exact k.1
    · exact zm8 k.2 t ht
def zes (n:Nat):List Box→Bool
  |[]=>true
  |b :: l=>zgx n b && zes n l
theorem yhk {l:List T} {i:Nat} {x:T} (h:i<l.length):spl l i [x]=l.set i x:=by
  unfold spl;rw [List.set_eq_take_append_cons_drop,if_pos h];simp
theorem yhq {α:Type} {L:List α} {f:α→T} {i:Nat} {v:α}:(L.map f).set i (f v)=(L.set i v).map f:=(List.map_set).symm
theorem yjo {l:List T}:spl l 0 []=l:=by simp [spl]
theorem yjm {a:T} {l xs:List T} {n:Nat}:spl (a :: l) (n+1) xs=a :: spl l n xs:=by
  unfold spl;rw [show n+1+xs.length=(n+xs.length)+1 by omega];simp
theorem yjn {a x:T} {l xs:List T}:spl (a :: l) 0 (x :: xs)=x :: spl l 0 xs:=by simp [spl]
theorem z8a {α:Type} {L:List α} {f:α→T} {i:Nat} {v:α} (h:i<L.length):spl (L.map f) i [f v]=(L.set i v).map f:=by
  rw [yhk (by rw [List.length_map];exact h),yhq]
theorem z9c (n:Nat) (k:IntKind) (z:Int):rep n [.int k z]=(List.replicate n z).map (T.int k):=by
  unfold rep
  induction n with
  |zero=>rfl
  |succ n ih=>rw [List.replicate_succ,List.flatten_cons,ih,List.replicate_succ];rfl
theorem z3h (n:Nat) (z:Bool):rep n [.bool z]=(List.replicate n z).map T.bool:=by
  unfold rep
  induction n with
  |zero=>rfl
  |succ n ih=>rw [List.replicate_succ,List.flatten_cons,ih,List.replicate_succ];rfl
theorem zfu {α:Type} {L:List α} {f:α→T} (h:∀ x,(f x).cells=[f x]):(L.map f).flatMap T.cells=L.map f:=by
  induction L with
  |nil=>rfl
  |cons x l ih=>rw [List.map_cons,List.flatMap_cons,h,ih];rfl
section
variable {GL:List (Nat×List Value)} {A A' A2:Nat→Prop} {β β' β2:Bx} {S S' S2:TS} {s s' s2:CS} {P:Program} {Γ:Env} {N:Nat} {h h' h2:Nat→T} {Q R:Exit→(Nat→T)→TS→Prop}
theorem zmg {l:List Nat} {t:Nat} (ht:t∈l):zwp l h t=h t:=if_pos ht
theorem zl1 {n:Nat} {l:List Box}:∀ {i:Nat},zes n l=true→zgx n (l.getD i .gone)=true:=by
  induction l with
  |nil=>intro i _;rfl
  |cons b l ih =>
    intro i h;simp only [zes,Bool.and_eq_true] at h
    cases i with
    |zero=>exact h.1
    |succ i=>exact ih h.2
theorem Left.trim {fr fr':Fr} {keep:List Nat} {bs bs2 extra:List Box} (hT:TRel GL A β (stL bs) s) (k:Left GL A β s N fr' s' h' (stL (bs2++extra))) (hl:bs2.length=bs.length) (hb:zes bs.length bs2=true) (hk:zhv keep bs.length h'):Left GL A β s N fr' s' (zwp keep h') (stL bs2):=by
  obtain ⟨A',β',k1,k2,k3⟩:=k;have hat:∀ b,b<bs.length→bcut β' bs.length b=β' b:=fun b hb=>if_pos hb
  have hsub:∀ b l,bcut β' bs.length b=some l→β' b=some l:=fun b l h=>by
    unfold bcut at h;split at h
    · exact h
    · simp at h
  have hkp:ztt (stL (bs2++extra)) (stL bs2):=by
    refine ⟨by simp [stL],fun b=>?_⟩;by_cases hbl:b<bs2.length
    · refine .inr ⟨hbl,?_,?_⟩
      · show bs2.getD b .gone=(bs2++extra).getD b .gone;rw [List.getD_eq_getElem?_getD,List.getD_eq_getElem?_getD,List.getElem?_append_left hbl]
      · show zgx bs2.length ((bs2++extra).getD b .gone)=true;rw [List.getD_eq_getElem?_getD,List.getElem?_append_left hbl,← List.getD_eq_getElem?_getD,hl];exact zl1 hb
    · left;show bs2.getD b .gone=.gone;rw [List.getD_eq_getElem?_getD,List.getElem?_eq_none (by omega)];rfl
  have hcut:=k2.cut hkp;have hn:(stL bs2).n=bs.length:=hl;rw [hn] at hcut;refine ⟨A',bcut β' bs.length,⟨k1.nt,k1.le,fun t=>?_⟩,hcut,k3.can,k3.sub,k3.new,fun f hf=>?_,k3.keep,fun b l hb'=>?_,k3.rd,k3.wr⟩
  · by_cases ht:t∈keep
    · rw [zmg ht];exact (k1.slot t).ids hat (zm8 hk t ht)
    · rw [show zwp keep h' t=.junk from if_neg ht];exact .junk _
  · obtain ⟨b,hb'⟩:=hf;exact k3.own f ⟨b,hb'.imp (fun ⟨u,N,h⟩=>⟨u,N,hsub _ _ h⟩) fun h=>hsub _ _ h⟩
  · obtain ⟨l',c1,c2⟩:=k3.bx b l hb'
    have:b<bs.length:=by
      by_cases hh:b<bs.length
      · exact hh
      · rw [hT.next b (by show bs.length≤b;omega)] at hb';simp at hb'
    exact ⟨l',by rw [hat b this];exact c1,c2⟩
def yk4 (keep:List Nat) (n:Nat) (I:Nat→(Nat→T)→List Box→Prop) (m0:Nat) (h':Nat→T) (S':TS):Prop :=
  ∃ m,m<m0∧∃ bs',S'=stL bs'∧n≤bs'.length∧zes n (bs'.take n)=true∧zhv keep n h'∧I m (zwp keep h') (bs'.take n)
theorem TW.loopT {b:Code} (keep:List Nat) (I:Nat→(Nat→T)→List Box→Prop) (hb:∀ m h bs,I m h bs→TW P Γ GL N b h (stL bs) (onT (fun h' S'=>yk4 keep bs.length I m h' S') Q)):∀ m h bs,I m h bs→TW P Γ GL N (.loop b) h (stL bs) Q:=by
  intro m
  induction m using Nat.strongRecOn with
  |_ m ih =>
    intro h bs hI A β fr s hF hT;obtain ⟨e,fr1,s1,h1,h',S',hleft,hq⟩:=hb m h bs hI A β fr s hF hT
    cases e with
    |normal =>
      obtain ⟨m2,hm,bs',rfl,hl,hbi,hki,hI'⟩:=hq;have hl2:=Left.trim (fr:=fr) (keep:=keep) (bs2:=bs'.take bs.length) (extra:=bs'.drop bs.length) hT (by rw [List.take_append_drop];exact hleft) (by rw [List.length_take];omega) hbi hki;obtain ⟨A',β',k1,k2,k3⟩:=hl2;obtain ⟨e2,fr2,s2,h3,h2,S2,l2,q2⟩:=ih m2 hm _ _ hI' A' β' fr1 s1 k1 k2;exact ⟨e2,fr2,s2,Ev.again h1 h3,h2,S2,Left.trans (h':=h) (fr':=fr) hT.le k3 l2,q2⟩
    |_=>exact ⟨_,_,_,Ev.last h1 (by simp),h',S',hleft,hq⟩
def Ends (keep:List Nat) (n:Nat) (R:(Nat→T)→List Box→Prop) (h':Nat→T) (S':TS):Prop :=
  ∃ bs',S'=stL bs'∧n≤bs'.length∧zes n (bs'.take n)=true∧zhv keep n h'∧R (zwp keep h') (bs'.take n)
theorem TRel.freezeP (hT:TRel GL A β S s) {b M:Nat} {z:Bool} {l:List T} (hS:S.box b=.cells z M l) :
    ∃ A' β',TRel GL A' β' (S.set b .gone) s∧Stp A β s A' β' s∧∀ {v:Value},VT A β (zag s.obj) (.ptr b 0 M) v→VT A' β' (zag s.obj) (.cp l) v:=by
  obtain ⟨hlN,hc⟩:=hT.cells b z M l hS;rcases hc with ⟨hb,hN,_⟩|⟨f,u,cs,rest,hb,hz,hat,hvl,hone⟩
  · obtain ⟨k1,k2⟩:=hT.dead hb A (fun _ h=>h) (fun _ h=>.inl h);refine ⟨_,_,k1,k2,fun {v} hv=>?_⟩;obtain ⟨f,u,rfl,hb'⟩:=ziu hT hS hv;rw [hb] at hb';simp at hb'
  · obtain ⟨k1,k2⟩:=hT.dead hb (fun k=>A k∨k=f) (fun _ h=>.inl h) (fun k hk=>hk.imp id fun q=>by rw [q];rfl);refine ⟨_,_,k1,k2,fun {v} hv=>?_⟩;obtain ⟨f',u',rfl,hb'⟩:=ziu hT hS hv;rw [hb] at hb';cases hb'
    have hrow:zat (zag s.obj f).rows u=some cs:=by
      rw [hat];show zat ((u,cs) :: rest) u=some cs;unfold zat;rw [Nat.beq_refl];rfl
    exact .cp (.inr rfl) hrow (hvl.mono (fun _ h=>.inl h) (fun _ _=>rfl) k2.bx) (by rw [List.drop_zero,List.take_length])
theorem TW.freezeP {c:Code} (t:Nat) {b M:Nat} {z:Bool} {l:List T} (ht:h t=.ptr b 0 M) (hS:S.box b=.cells z M l) (k:TW P Γ GL N c (tupd h t (.cp l)) (S.set b .gone) Q):TW P Γ GL N c h S Q:=by
  intro A β fr s hF hT;obtain ⟨A',β',k1,k2,k3⟩:=hT.freezeP hS;have hv:=hF.slot t;rw [ht] at hv
  have hF':FrOk A' β' (zag s.obj) N (tupd h t (.cp l)) fr:=⟨hF.nt,hF.le,fun u=>by
    by_cases hu:u=t
    · subst hu;rw [zjt];exact k3 hv
    · rw [zon _ _ _ _ hu];exact k2.vt hT (hF.slot u)⟩
  refine (k A' β' fr s hF' k1).mono ?_;rintro e2 fr2 s2 ⟨h2,S2,l2,q2⟩;exact ⟨h2,S2,Left.trans (h':=h) (fr':=fr) hT.le k2 l2,q2⟩
theorem TW.cut {a:Code} {k:(Nat→T)→TS→Prop} (keep:List Nat) {bs:List Box} (R:(Nat→T)→List Box→Prop) (hR:TW P Γ GL N a h (stL bs) fun e h' S'=>e=.normal∧Ends keep bs.length R h' S') (hk:∀ h bs2,R h bs2→k h (stL bs2)):TW P Γ GL N a h (stL bs) (onT k Q):=by
  intro A β fr s hF hT;obtain ⟨e,fr1,s1,h1,h',S',hleft,rfl,bs',rfl,hl,hbi,hki,hq⟩:=hR A β fr s hF hT;exact ⟨_,fr1,s1,h1,_,_,Left.trim (fr:=fr) (keep:=keep) (bs2:=bs'.take bs.length) (extra:=bs'.drop bs.length) hT (by rw [List.take_append_drop];exact hleft) (by rw [List.length_take];omega) hbi hki,hk _ _ hq⟩
end
end
section
open Go Go.RowKit
theorem z3v {k:IntKind} {n:Int}:T.one (T.int k n)=true:=Eq.trans rfl rfl
theorem z5l {k:IntKind} {n:Int}:T.cells (T.int k n)=[(T.int k n)]:=Eq.trans rfl rfl
theorem zyt {b:Bool}:T.one (T.bool b)=true:=Eq.trans rfl rfl
theorem z0g {b:Bool}:T.cells (T.bool b)=[(T.bool b)]:=Eq.trans rfl rfl
theorem z3s {b:ByteArray}:T.one (T.str b)=true:=Eq.trans rfl rfl
theorem z5i {b:ByteArray}:T.cells (T.str b)=[(T.str b)]:=Eq.trans rfl rfl
theorem z3u {e:Nat} {l:List T}:T.one (T.lst e l)=true:=Eq.trans rfl rfl
theorem z5k {e:Nat} {l:List T}:T.cells (T.lst e l)=[(T.lst e l)]:=Eq.trans rfl rfl
theorem zyp  : T.one (T.nils)=true:=Eq.trans rfl rfl
theorem z0c  : T.cells (T.nils)=[(T.nils)]:=Eq.trans rfl rfl
theorem zyq  : T.one (T.nilp)=true:=Eq.trans rfl rfl
theorem z0d  : T.cells (T.nilp)=[(T.nilp)]:=Eq.trans rfl rfl
theorem zyr  : T.one (T.nilm)=true:=Eq.trans rfl rfl
theorem z0e  : T.cells (T.nilm)=[(T.nilm)]:=Eq.trans rfl rfl
theorem zys  : T.one (T.nilf)=true:=Eq.trans rfl rfl
theorem z0f  : T.cells (T.nilf)=[(T.nilf)]:=Eq.trans rfl rfl
theorem z3t {b o n:Nat}:T.one (T.ptr b o n)=true:=Eq.trans rfl rfl
theorem z5j {b o n:Nat}:T.cells (T.ptr b o n)=[(T.ptr b o n)]:=Eq.trans rfl rfl
theorem z9v {l:List T}:T.one (T.cp l)=true:=Eq.trans rfl rfl
theorem yce {l:List T}:T.cells (T.cp l)=[(T.cp l)]:=Eq.trans rfl rfl
theorem z3x {b e o l c n:Nat}:T.one (T.arr b e o l c n)=true:=Eq.trans rfl rfl
theorem z5n {b e o l c n:Nat}:T.cells (T.arr b e o l c n)=[(T.arr b e o l c n)]:=Eq.trans rfl rfl
theorem z9t {b:Nat}:T.one (T.mp b)=true:=Eq.trans rfl rfl
theorem ycc {b:Nat}:T.cells (T.mp b)=[(T.mp b)]:=Eq.trans rfl rfl
theorem z9u {f:Nat} {a c:List T}:T.one (T.fn f a c)=true:=Eq.trans rfl rfl
theorem ycd {f:Nat} {a c:List T}:T.cells (T.fn f a c)=[(T.fn f a c)]:=Eq.trans rfl rfl
theorem z3w {e:Nat}:T.one (T.emp e)=true:=Eq.trans rfl rfl
theorem z5m {e:Nat}:T.cells (T.emp e)=[(T.emp e)]:=Eq.trans rfl rfl
theorem ygz {k:IntKind}:aggT (.int k)=false:=Eq.trans rfl rfl
theorem yg0  : aggT .bool=false:=Eq.trans rfl rfl
theorem ygv  : aggT .string=false:=Eq.trans rfl rfl
theorem ygy {k:TypeId}:aggT (.slice k)=false:=Eq.trans rfl rfl
theorem ygw {k:TypeId}:aggT (.pointer k)=false:=Eq.trans rfl rfl
theorem ygx {k k2:TypeId}:aggT (.map k k2)=false:=Eq.trans rfl rfl
theorem b0:type_of% (And.intro (And.intro (And.intro (And.intro (And.intro (@z80) (@z81)) (And.intro (@zyb) (@zrw))) (And.intro (And.intro (@zrv) (@z28)) (And.intro (@z91) (@yfw)))) (And.intro (And.intro (And.intro (@z9w) (@z5v)) (And.intro (@z82) (@z83))) (And.intro (And.intro (@zyc) (@zry)) (And.intro (@zrx) (@z3a))))) (And.intro (And.intro (And.intro (And.intro (@z33) (@z9y)) (And.intro (@z3y) (@z0i))) (And.intro (And.intro (@z7b) (@z7c)) (And.intro (@z7e) (@z7f)))) (And.intro (And.intro (And.intro (@z7d) (@zt4)) (And.intro (@zt5) (@ya8))) (And.intro (And.intro (@z4w) (@zxp)) (And.intro (@ztz) (@zy8)))))):=And.intro (And.intro (And.intro (And.intro (And.intro (@z80) (@z81)) (And.intro (@zyb) (@zrw))) (And.intro (And.intro (@zrv) (@z28)) (And.intro (@z91) (@yfw)))) (And.intro (And.intro (And.intro (@z9w) (@z5v)) (And.intro (@z82) (@z83))) (And.intro (And.intro (@zyc) (@zry)) (And.intro (@zrx) (@z3a))))) (And.intro (And.intro (And.intro (And.intro (@z33) (@z9y)) (And.intro (@z3y) (@z0i))) (And.intro (And.intro (@z7b) (@z7c)) (And.intro (@z7e) (@z7f)))) (And.intro (And.intro (And.intro (@z7d) (@zt4)) (And.intro (@zt5) (@ya8))) (And.intro (And.intro (@z4w) (@zxp)) (And.intro (@ztz) (@zy8)))))
theorem b1:type_of% (And.intro (And.intro (And.intro (And.intro (And.intro (@zuu) (@z5q)) (And.intro (@z5t) (@z9n))) (And.intro (And.intro (@z9o) (@zu4)) (And.intro (@zmk) (@ybo)))) (And.intro (And.intro (And.intro (@zzp) (@yfz)) (And.intro (@zo4) (@yfy))) (And.intro (And.intro (@yai) (@yaj)) (And.intro (@yak) (@yal))))) (And.intro (And.intro (And.intro (And.intro (@ztv) (@ztw)) (And.intro (@yay) (@zzc))) (And.intro (And.intro (@yax) (@z4n)) (And.intro (@yf4) (@z4m)))) (And.intro (And.intro (And.intro (@zn2) (@yaz)) (And.intro (@z4i) (@zsm))) (And.intro (And.intro (@yf5) (@ykg)) (And.intro (@ya0) (@yf3)))))):=And.intro (And.intro (And.intro (And.intro (And.intro (@zuu) (@z5q)) (And.intro (@z5t) (@z9n))) (And.intro (And.intro (@z9o) (@zu4)) (And.intro (@zmk) (@ybo)))) (And.intro (And.intro (And.intro (@zzp) (@yfz)) (And.intro (@zo4) (@yfy))) (And.intro (And.intro (@yai) (@yaj)) (And.intro (@yak) (@yal))))) (And.intro (And.intro (And.intro (And.intro (@ztv) (@ztw)) (And.intro (@yay) (@zzc))) (And.intro (And.intro (@yax) (@z4n)) (And.intro (@yf4) (@z4m)))) (And.intro (And.intro (And.intro (@zn2) (@yaz)) (And.intro (@z4i) (@zsm))) (And.intro (And.intro (@yf5) (@ykg)) (And.intro (@ya0) (@yf3)))))
theorem b2:type_of% (And.intro (And.intro (And.intro (And.intro (And.intro (@zsn) (@zp2)) (And.intro (@z4j) (@zp4))) (And.intro (And.intro (@z4l) (@zp3)) (And.intro (@z4k) (@zux)))) (And.intro (And.intro (And.intro (@zuy) (@z8q)) (And.intro (@z8u) (@zx5))) (And.intro (And.intro (@zx8) (@z8r)) (And.intro (@z8x) (@zrp))))) (And.intro (And.intro (And.intro (And.intro (@zrr) (@ye9)) (And.intro (@yff) (@zpt))) (And.intro (And.intro (@zpv) (@z20)) (And.intro (@z26) (@zps)))) (And.intro (And.intro (And.intro (@zpu) (@z2z)) (And.intro (@z25) (@zua))) (And.intro (And.intro (@zub) (@yjx)) (And.intro (@yjy) (@yfe)))))):=And.intro (And.intro (And.intro (And.intro (And.intro (@zsn) (@zp2)) (And.intro (@z4j) (@zp4))) (And.intro (And.intro (@z4l) (@zp3)) (And.intro (@z4k) (@zux)))) (And.intro (And.intro (And.intro (@zuy) (@z8q)) (And.intro (@z8u) (@zx5))) (And.intro (And.intro (@zx8) (@z8r)) (And.intro (@z8x) (@zrp))))) (And.intro (And.intro (And.intro (And.intro (@zrr) (@ye9)) (And.intro (@yff) (@zpt))) (And.intro (And.intro (@zpv) (@z20)) (And.intro (@z26) (@zps)))) (And.intro (And.intro (And.intro (@zpu) (@z2z)) (And.intro (@z25) (@zua))) (And.intro (And.intro (@zub) (@yjx)) (And.intro (@yjy) (@yfe)))))
theorem b3:type_of% (And.intro (And.intro (And.intro (And.intro (And.intro (@yfh) (@z21)) (And.intro (@z27) (@z2y))) (And.intro (And.intro (@z24) (@zrq)) (And.intro (@zrs) (@z8p)))) (And.intro (And.intro (And.intro (@z1a) (@z8t)) (And.intro (@z8y) (@zfh))) (And.intro (And.intro (@zfi) (@yfc)) (And.intro (@yfg) (@yfa))))) (And.intro (And.intro (And.intro (And.intro (@z8v) (@yfb)) (And.intro (@z8w) (@z22))) (And.intro (And.intro (@yfd) (@z2x)) (And.intro (@zpr) (@zx6)))) (And.intro (And.intro (And.intro (@z8s) (@z9k)) (And.intro (@z9l) (@z36))) (And.intro (And.intro (@z37) (@ye4)) (And.intro (@ye3) (@ye7)))))):=And.intro (And.intro (And.intro (And.intro (And.intro (@yfh) (@z21)) (And.intro (@z27) (@z2y))) (And.intro (And.intro (@z24) (@zrq)) (And.intro (@zrs) (@z8p)))) (And.intro (And.intro (And.intro (@z1a) (@z8t)) (And.intro (@z8y) (@zfh))) (And.intro (And.intro (@zfi) (@yfc)) (And.intro (@yfg) (@yfa))))) (And.intro (And.intro (And.intro (And.intro (@z8v) (@yfb)) (And.intro (@z8w) (@z22))) (And.intro (And.intro (@yfd) (@z2x)) (And.intro (@zpr) (@zx6)))) (And.intro (And.intro (And.intro (@z8s) (@z9k)) (And.intro (@z9l) (@z36))) (And.intro (And.intro (@z37) (@ye4)) (And.intro (@ye3) (@ye7)))))
theorem b4:type_of% (And.intro (And.intro (And.intro (And.intro (And.intro (@ye6) (@ye1)) (And.intro (@ye2) (@zca))) (And.intro (And.intro (@zuj) (@z95)) (And.intro (@z96) (@z9c)))) (And.intro (And.intro (And.intro (@z3h) (@yjo)) (And.intro (@yjm) (@yjn))) (And.intro (And.intro (@ygi) (@yf7)) (And.intro (@ygb) (@ygg))))) (And.intro (And.intro (And.intro (And.intro (@yga) (@ygc)) (And.intro (@ygd) (@yge))) (And.intro (And.intro (@ygf) (@z4p)) (And.intro (@z4o) (@z2l)))) (And.intro (And.intro (And.intro (@st_n) (@ye5)) (And.intro (@zxu) (@zhi))) (And.intro (And.intro (@zzf) (@zzg)) (And.intro (@cond_true.{1}) (@cond_false.{1})))))):=And.intro (And.intro (And.intro (And.intro (And.intro (@ye6) (@ye1)) (And.intro (@ye2) (@zca))) (And.intro (And.intro (@zuj) (@z95)) (And.intro (@z96) (@z9c)))) (And.intro (And.intro (And.intro (@z3h) (@yjo)) (And.intro (@yjm) (@yjn))) (And.intro (And.intro (@ygi) (@yf7)) (And.intro (@ygb) (@ygg))))) (And.intro (And.intro (And.intro (And.intro (@yga) (@ygc)) (And.intro (@ygd) (@yge))) (And.intro (And.intro (@ygf) (@z4p)) (And.intro (@z4o) (@z2l)))) (And.intro (And.intro (And.intro (@st_n) (@ye5)) (And.intro (@zxu) (@zhi))) (And.intro (And.intro (@zzf) (@zzg)) (And.intro (@cond_true.{1}) (@cond_false.{1})))))
theorem b5:type_of% (And.intro (And.intro (And.intro (And.intro (And.intro (@List.toList_toArray.{0}) (@List.map_cons.{0,0})) (And.intro (@List.map_nil.{0,0}) (@List.length_cons.{0}))) (And.intro (And.intro (@List.length_nil.{0}) (@List.length_map.{0,0})) (And.intro (@List.getElem?_cons_zero.{0}) (@List.getElem?_cons_succ.{0})))) (And.intro (And.intro (And.intro (@List.getElem?_map.{0,0}) (@Option.map_some.{0,0})) (And.intro (@Option.map_none.{0,0}) (@List.nil_append.{0}))) (And.intro (And.intro (@List.cons_append.{0}) (@List.append_nil.{0})) (And.intro (@List.all_cons.{0}) (@List.all_nil.{0}))))) (And.intro (And.intro (And.intro (And.intro (@List.drop_zero.{0}) (@List.drop_succ_cons.{0})) (And.intro (@List.take_succ_cons.{0}) (@List.take_zero.{0}))) (And.intro (And.intro (@List.set_cons_zero.{0}) (@List.set_cons_succ.{0})) (And.intro (@Bool.and_true) (@Bool.true_and)))) (And.intro (And.intro (And.intro (@Bool.and_self) (@Bool.not_true)) (And.intro (@Bool.not_false) (@Bool.false_and))) (And.intro (And.intro (@Bool.and_false) (@zcl)) (And.intro (@zgz) (@zd1)))))):=And.intro (And.intro (And.intro (And.intro (And.intro (@List.toList_toArray.{0}) (@List.map_cons.{0,0})) (And.intro (@List.map_nil.{0,0}) (@List.length_cons.{0}))) (And.intro (And.intro (@List.length_nil.{0}) (@List.length_map.{0,0})) (And.intro (@List.getElem?_cons_zero.{0}) (@List.getElem?_cons_succ.{0})))) (And.intro (And.intro (And.intro (@List.getElem?_map.{0,0}) (@Option.map_some.{0,0})) (And.intro (@Option.map_none.{0,0}) (@List.nil_append.{0}))) (And.intro (And.intro (@List.cons_append.{0}) (@List.append_nil.{0})) (And.intro (@List.all_cons.{0}) (@List.all_nil.{0}))))) (And.intro (And.intro (And.intro (And.intro (@List.drop_zero.{0}) (@List.drop_succ_cons.{0})) (And.intro (@List.take_succ_cons.{0}) (@List.take_zero.{0}))) (And.intro (And.intro (@List.set_cons_zero.{0}) (@List.set_cons_succ.{0})) (And.intro (@Bool.and_true) (@Bool.true_and)))) (And.intro (And.intro (And.intro (@Bool.and_self) (@Bool.not_true)) (And.intro (@Bool.not_false) (@Bool.false_and))) (And.intro (And.intro (@Bool.and_false) (@zcl)) (And.intro (@zgz) (@zd1)))))
theorem b6:type_of% (And.intro (And.intro (And.intro (And.intro (And.intro (@Nat.beq_refl) (@Int.toNat_natCast)) (And.intro (@Nat.zero_add) (@Nat.add_zero))) (And.intro (And.intro (@Nat.mul_one) (@List.length_replicate.{0})) (And.intro (@ownD.eq_1) (@ownD.eq_2)))) (And.intro (And.intro (And.intro (@has.eq_1) (@has.eq_2)) (And.intro (@tLen.eq_1) (@zrg.eq_1))) (And.intro (And.intro (@zrg.eq_2) (@zt1.eq_1)) (And.intro (@zym.eq_1) (@tBox.eq_1))))) (And.intro (And.intro (And.intro (And.intro (@zt2.eq_1) (@zhh.eq_1)) (And.intro (@zhh.eq_2) (@zka.eq_1))) (And.intro (And.intro (@zka.eq_2) (@zka.eq_3)) (And.intro (@zka.eq_4) (@zka.eq_5)))) (And.intro (And.intro (And.intro (@zka.eq_6) (@zka.eq_7)) (And.intro (@zg0.eq_1) (@zrh.eq_1))) (And.intro (And.intro (@zke.eq_1) (@zev.eq_1)) (And.intro (@zev.eq_2) (@zev.eq_3)))))):=And.intro (And.intro (And.intro (And.intro (And.intro (@Nat.beq_refl) (@Int.toNat_natCast)) (And.intro (@Nat.zero_add) (@Nat.add_zero))) (And.intro (And.intro (@Nat.mul_one) (@List.length_replicate.{0})) (And.intro (@ownD.eq_1) (@ownD.eq_2)))) (And.intro (And.intro (And.intro (@has.eq_1) (@has.eq_2)) (And.intro (@tLen.eq_1) (@zrg.eq_1))) (And.intro (And.intro (@zrg.eq_2) (@zt1.eq_1)) (And.intro (@zym.eq_1) (@tBox.eq_1))))) (And.intro (And.intro (And.intro (And.intro (@zt2.eq_1) (@zhh.eq_1)) (And.intro (@zhh.eq_2) (@zka.eq_1))) (And.intro (And.intro (@zka.eq_2) (@zka.eq_3)) (And.intro (@zka.eq_4) (@zka.eq_5)))) (And.intro (And.intro (And.intro (@zka.eq_6) (@zka.eq_7)) (And.intro (@zg0.eq_1) (@zrh.eq_1))) (And.intro (And.intro (@zke.eq_1) (@zev.eq_1)) (And.intro (@zev.eq_2) (@zev.eq_3)))))
theorem b7:type_of% (And.intro (And.intro (And.intro (And.intro (And.intro (@zrf.eq_1) (@zpi.eq_1)) (And.intro (@TS.has.eq_1) (@zic.eq_1))) (And.intro (And.intro (@aggT.eq_1) (@aggT.eq_2)) (And.intro (@ygz) (@yg0)))) (And.intro (And.intro (And.intro (@ygv) (@ygy)) (And.intro (@ygw) (@ygx))) (And.intro (And.intro (@T.cells.eq_1) (@T.one.eq_1)) (And.intro (@T.one.eq_2) (@T.one.eq_3))))) (And.intro (And.intro (And.intro (And.intro (@z3v) (@z5l)) (And.intro (@zyt) (@z0g))) (And.intro (And.intro (@z3s) (@z5i)) (And.intro (@z3u) (@z5k)))) (And.intro (And.intro (And.intro (@zyp) (@z0c)) (And.intro (@zyq) (@z0d))) (And.intro (And.intro (@zyr) (@z0e)) (And.intro (@zys) (@z0f)))))):=And.intro (And.intro (And.intro (And.intro (And.intro (@zrf.eq_1) (@zpi.eq_1)) (And.intro (@TS.has.eq_1) (@zic.eq_1))) (And.intro (And.intro (@aggT.eq_1) (@aggT.eq_2)) (And.intro (@ygz) (@yg0)))) (And.intro (And.intro (And.intro (@ygv) (@ygy)) (And.intro (@ygw) (@ygx))) (And.intro (And.intro (@T.cells.eq_1) (@T.one.eq_1)) (And.intro (@T.one.eq_2) (@T.one.eq_3))))) (And.intro (And.intro (And.intro (And.intro (@z3v) (@z5l)) (And.intro (@zyt) (@z0g))) (And.intro (And.intro (@z3s) (@z5i)) (And.intro (@z3u) (@z5k)))) (And.intro (And.intro (And.intro (@zyp) (@z0c)) (And.intro (@zyq) (@z0d))) (And.intro (And.intro (@zyr) (@z0e)) (And.intro (@zys) (@z0f)))))
theorem b8:type_of% (And.intro (And.intro (And.intro (@z3t) (And.intro (@z5j) (@z9v))) (And.intro (@yce) (And.intro (@z3x) (@z5n)))) (And.intro (And.intro (@z9t) (And.intro (@ycc) (@z9u))) (And.intro (@ycd) (And.intro (@z3w) (@z5m))))):=And.intro (And.intro (And.intro (@z3t) (And.intro (@z5j) (@z9v))) (And.intro (@yce) (And.intro (@z3x) (@z5n)))) (And.intro (And.intro (@z9t) (And.intro (@ycc) (@z9u))) (And.intro (@ycd) (And.intro (@z3w) (@z5m))))
theorem apA:type_of% (And.intro (And.intro (And.intro (@zoq.eq_1) (@z0o)) (And.intro (@zjj) (And.intro (@zte) (@Bool.or_false)))) (And.intro (And.intro (@Bool.or_self) (@List.flatMap_cons.{0,0})) (And.intro (@List.flatMap_nil.{0,0}) (And.intro (@Nat.add_mul) (@Nat.one_mul))))):=And.intro (And.intro (And.intro (@zoq.eq_1) (@z0o)) (And.intro (@zjj) (And.intro (@zte) (@Bool.or_false)))) (And.intro (And.intro (@Bool.or_self) (@List.flatMap_cons.{0,0})) (And.intro (@List.flatMap_nil.{0,0}) (And.intro (@Nat.add_mul) (@Nat.one_mul))))
theorem apB:type_of% (And.intro (And.intro (@zer.eq_1) (@zer.eq_2)) (And.intro (@zar.eq_1) (And.intro (@zfh) (@zfi)))):=And.intro (And.intro (@zer.eq_1) (@zer.eq_2)) (And.intro (@zar.eq_1) (And.intro (@zfh) (@zfi)))
theorem lzA:type_of% (And.intro (@List.length_cons.{0}) (And.intro (@List.length_nil.{0}) (@Nat.zero_add))):=And.intro (@List.length_cons.{0}) (And.intro (@List.length_nil.{0}) (@Nat.zero_add))
end
section
open Go Go.RowKit
mutual
def T.ren (ρ:Nat→Nat):T→T
 |.agg l=>.agg (T.renL ρ l)
 |.tup l=>.tup (T.renL ρ l)
 |.lst e l=>.lst e (T.renL ρ l)
 |.cp l=>.cp (T.renL ρ l)
 |.ptr b o N=>.ptr (ρ b) o N
 |.arr b e o l c N=>.arr (ρ b) e o l c N
 |.mp b=>.mp (ρ b)
 |.fn f a c=>.fn f (T.renL ρ a) (T.renL ρ c)
 |.int k n=>.int k n
 |.bool b=>.bool b
 |.str b=>.str b
 |.nils=>.nils
 |.nilp=>.nilp
 |.nilm=>.nilm
 |.nilf=>.nilf
 |.junk=>.junk
 |.emp e=>.emp e
def T.renL (ρ:Nat→Nat):List T→List T
 |[]=>[]
 |t :: l=>t.ren ρ :: T.renL ρ l
end
def zdz (ρ:Nat→Nat):Box→Box
 |.gone=>.gone
 |.cells z N l=>.cells z N (T.renL ρ l)
 |.map l=>.map (l.map fun p=>(p.1.ren ρ,p.2.ren ρ))
section
variable {GL:List (Nat×List Value)} {A A' A1:Nat→Prop} {β β' β0 β1:Bx} {S S' S0 S1:TS} {s s' s1:CS} {P:Program} {Γ:Env} {g g':Nat→Fam} {ρ:Nat→Nat} {n:Nat}
theorem zkp:∀ (l:List T),T.renL ρ l=l.map (T.ren ρ)
 |[]=>rfl
 |t :: l=>by rw [T.renL,List.map_cons,zkp l]
theorem zjb (l:List T):(T.renL ρ l).length=l.length:=by rw [zkp,List.length_map]
theorem z1g (l m:List T):T.renL ρ (l++m)=T.renL ρ l++T.renL ρ m:=by simp only [zkp,List.map_append]
theorem zr2 (t:T):(t.ren ρ).cells=T.renL ρ t.cells:=by
 cases t<;>simp only [T.ren,T.cells,T.renL]
theorem zv7:∀ (l:List T),(T.renL ρ l).flatMap T.cells=T.renL ρ (l.flatMap T.cells)
 |[]=>rfl
 |t :: l=>by rw [T.renL,List.flatMap_cons,List.flatMap_cons,zr2,zv7 l,z1g]
theorem yaw:∀ {l:List T},T.idsL n l=true→∀ t,t∈l→t.ids n=true
 |[],_,t,h=>by simp at h
 |x :: l,h,t,ht=>by
  simp only [T.idsL,Bool.and_eq_true] at h;rcases List.mem_cons.1 ht with rfl|ht
  ·exact h.1
  ·exact yaw h.2 t ht
mutual
theorem VT.up (hβ:∀ b,b<n→β' (ρ b)=β b):∀ {t:T} {v:Value},t.ids n=true→VT A β g t v→VT A β' g (t.ren ρ) v
 |_,_,_,.int k n=>.int k n
 |_,_,_,.bool b=>.bool b
 |_,_,_,.str b=>.str b
 |_,_,hi,.agg h=>.agg (VL.up hβ hi h)
 |_,_,hi,.tup h=>.tup (VL.up hβ hi h)
 |_,_,_,.lnil=>.lnil
 |.lst e l,_,hi,.lst h1 h2 h3 h4 h5 h6 h7 h8=>by
  have q:=VL.up hβ (zmj hi) h3;rw [← zv7] at q;have:=VT.lst (l:=T.renL ρ l) h1 h2 q (fun t ht=>by rw [zkp] at ht;obtain ⟨x,hx,rfl⟩:=List.mem_map.1 ht;rw [zr2,zjb];exact h4 x hx) h5 h6 h7 (by rw [zjb];exact h8);rw [zjb] at this;exact this
 |_,_,_,.nils=>.nils
 |_,_,_,.nilp=>.nilp
 |_,_,_,.nilm=>.nilm
 |_,_,_,.nilf=>.nilf
 |_,_,hi,.ptr h=>.ptr (by rw [hβ _ (zai.1 hi)];exact h)
 |_,_,hi,.ptrOld h h0 h1 h2=>.ptrOld (by rw [hβ _ (zai.1 hi)];exact h) h0 h1 h2
 |_,_,hi,.cp h1 h2 h3 h4=>.cp h1 h2 (VL.up hβ hi h3) h4
 |_,_,hi,.arr h ht=>.arr (by rw [hβ _ (zai.1 hi)];exact h) ht
 |_,_,hi,.arrNil h=>.arrNil (by rw [hβ _ (zai.1 hi)];exact h)
 |_,_,hi,.arrOld h h0 h1 h2=>.arrOld (by rw [hβ _ (zai.1 hi)];exact h) h0 h1 h2
 |_,_,hi,.mp h=>.mp (by rw [hβ _ (zai.1 hi)];exact h)
 |_,_,hi,.mpOld h h2=>.mpOld (by rw [hβ _ (zai.1 hi)];exact h) h2
 |_,_,hi,.fn h1 h2=>by
  simp only [T.ids,Bool.and_eq_true] at hi;exact .fn (VL.up hβ hi.1 h1) (VL.up hβ hi.2 h2)
 |_,_,_,.junk v=>.junk v
 |_,_,_,.emp h1 h2 h3 h4=>.emp h1 h2 h3 h4
theorem VL.up (hβ:∀ b,b<n→β' (ρ b)=β b):∀ {l:List T} {vs:List Value},T.idsL n l=true→VL A β g l vs→VL A β' g (T.renL ρ l) vs
 |_,_,_,.nil=>.nil
 |_,_,hi,.cons h k=>by
  simp only [T.idsL,Bool.and_eq_true] at hi;exact .cons (VT.up hβ hi.1 h) (VL.up hβ hi.2 k)
end
mutual
theorem VT.down (hβ:∀ b,b<n→β' b=β (ρ b)):∀ {t':T} {v:Value},VT A β g t' v→∀ {t:T},t.ren ρ=t'→t.ids n=true→VT A β' g t v
 |_,_,.int k m,t,e,hi=>by
  cases t<;>simp [T.ren] at e;obtain ⟨rfl,rfl⟩:=e;exact .int _ _
 |_,_,.bool b,t,e,hi=>by
  cases t<;>simp [T.ren] at e;subst e;exact .bool _
 |_,_,.str b,t,e,hi=>by
  cases t<;>simp [T.ren] at e;subst e;exact .str _
 |_,_,.agg h,t,e,hi=>by
  cases t<;>simp [T.ren] at e;exact .agg (VL.down hβ h e hi)
 |_,_,.tup h,t,e,hi=>by
  cases t<;>simp [T.ren] at e;exact .tup (VL.down hβ h e hi)
 |_,_,.lnil,t,e,hi=>by
  cases t<;>simp [T.ren] at e;rename_i e' l;obtain ⟨rfl,e⟩:=e
  cases l with
  |nil=>exact .lnil
  |cons x l=>simp [T.renL] at e
 |_,_,.lst (l:=l') h1 h2 h3 h4 h5 h6 h7 h8,t,e,hi=>by
  cases t<;>simp [T.ren] at e;rename_i e' l;have q:=VL.down hβ h3 (l:=l.flatMap T.cells) (by rw [← e.2];exact (zv7 l).symm) (zmj hi);obtain ⟨rfl,rfl⟩:=e;have:=VT.lst (l:=l) h1 h2 q (fun t ht=>by have:=h4 (t.ren ρ) (by rw [zkp];exact List.mem_map_of_mem ht);rw [zr2,zjb] at this;exact this) h5 h6 h7 (by rw [zjb] at h8;exact h8);rw [zjb];exact this
 |_,_,.nils,t,e,hi=>by cases t<;>simp [T.ren] at e;exact .nils
 |_,_,.nilp,t,e,hi=>by cases t<;>simp [T.ren] at e;exact .nilp
 |_,_,.nilm,t,e,hi=>by cases t<;>simp [T.ren] at e;exact .nilm
 |_,_,.nilf,t,e,hi=>by cases t<;>simp [T.ren] at e;exact .nilf
 |_,_,.ptr h,t,e,hi=>by
  cases t<;>simp [T.ren] at e;obtain ⟨rfl,rfl,rfl⟩:=e;exact .ptr (by rw [hβ _ (zai.1 hi)];exact h)
 |_,_,.ptrOld h h0 h1 h2,t,e,hi=>by
  cases t<;>simp [T.ren] at e;obtain ⟨rfl,rfl,rfl⟩:=e;exact .ptrOld (by rw [hβ _ (zai.1 hi)];exact h) h0 h1 h2
 |_,_,.cp h1 h2 h3 h4,t,e,hi=>by
  cases t<;>simp [T.ren] at e;exact .cp h1 h2 (VL.down hβ h3 e hi) h4
 |_,_,.arr h ht,t,e,hi=>by
  cases t<;>simp [T.ren] at e;obtain ⟨rfl,rfl,rfl,rfl,rfl,rfl⟩:=e;exact .arr (by rw [hβ _ (zai.1 hi)];exact h) ht
 |_,_,.arrNil h,t,e,hi=>by
  cases t<;>simp [T.ren] at e;obtain ⟨rfl,rfl,rfl,rfl,rfl,rfl⟩:=e;exact .arrNil (by rw [hβ _ (zai.1 hi)];exact h)
 |_,_,.arrOld h h0 h1 h2,t,e,hi=>by
  cases t<;>simp [T.ren] at e;obtain ⟨rfl,rfl,rfl,rfl,rfl,rfl⟩:=e;exact .arrOld (by rw [hβ _ (zai.1 hi)];exact h) h0 h1 h2
 |_,_,.mp h,t,e,hi=>by
  cases t<;>simp [T.ren] at e;subst e;exact .mp (by rw [hβ _ (zai.1 hi)];exact h)
 |_,_,.mpOld h h2,t,e,hi=>by
  cases t<;>simp [T.ren] at e;subst e;exact .mpOld (by rw [hβ _ (zai.1 hi)];exact h) h2
 |_,_,.fn h1 h2,t,e,hi=>by
  cases t<;>simp [T.ren] at e;obtain ⟨rfl,e1,e2⟩:=e;simp only [T.ids,Bool.and_eq_true] at hi;exact .fn (VL.down hβ h1 e1 hi.1) (VL.down hβ h2 e2 hi.2)
 |_,_,.junk v,t,e,hi=>by cases t<;>simp [T.ren] at e;exact .junk _
 |_,_,.emp h1 h2 h3 h4,t,e,hi=>by
  cases t<;>simp [T.ren] at e;subst e;exact .emp h1 h2 h3 h4
theorem VL.down (hβ:∀ b,b<n→β' b=β (ρ b)):∀ {l':List T} {vs:List Value},VL A β g l' vs→∀ {l:List T},T.renL ρ l=l'→T.idsL n l=true→VL A β' g l vs
 |_,_,.nil,l,e,hi=>by
  cases l with
  |nil=>exact .nil
  |cons x l=>simp [T.renL] at e
 |_,_,.cons h k,l,e,hi=>by
  cases l with
  |nil=>simp [T.renL] at e
  |cons x l =>
   simp only [T.renL,List.cons.injEq] at e;simp only [T.idsL,Bool.and_eq_true] at hi;exact .cons (VT.down hβ h e.1 hi.1) (VL.down hβ k e.2 hi.2)
end
structure Fits (ρ:Nat→Nat) (S0 S1 S S':TS):Prop where
 le:S0.n≤S1.n
 out:∀ b,S0.n≤b→S0.box b=.gone
 old:∀ i,i<S0.n→ρ i<S.n
 new:∀ i,S0.n≤i→i<S1.n→S.n≤ρ i
 top:∀ i,i<S1.n→ρ i<S'.n
 grow:S.n≤S'.n
 inj:∀ i j,i<S1.n→j<S1.n→ρ i=ρ j→i=j
 pre:∀ i,i<S0.n→S.box (ρ i)=zdz ρ (S0.box i)∧zgx S0.n (S0.box i)=true
 post:∀ i,i<S1.n→S'.box (ρ i)=zdz ρ (S1.box i)∧zgx S1.n (S1.box i)=true
 rest:∀ b,(∀ i,i<S1.n→ρ i≠b)→S'.box b=S.box b
open Classical in
noncomputable def bmix (ρ:Nat→Nat) (m:Nat) (β1 β:Bx):Bx:=fun b=>if h:∃ i,i<m∧ρ i=b then β1 (Classical.choose h) else β b
theorem yi0 {m i:Nat} (hinj:∀ i j,i<m→j<m→ρ i=ρ j→i=j) (hi:i<m):bmix ρ m β1 β (ρ i)=β1 i:=by
 unfold bmix;have h:∃ j,j<m∧ρ j=ρ i:=⟨i,hi,rfl⟩;rw [dif_pos h];have:=Classical.choose_spec h;rw [hinj _ _ this.1 hi this.2]
theorem zib {m b:Nat} (h:∀ i,i<m→ρ i≠b):bmix ρ m β1 β b=β b:=by
 unfold bmix;rw [dif_neg (fun ⟨i,h1,h2⟩=>h i h1 h2)]
theorem z3f (l:List (T×T)):(l.map fun p=>(p.1.ren ρ,p.2.ren ρ)).map (·.1)=T.renL ρ (l.map (·.1)):=by
 rw [zkp,List.map_map,List.map_map];rfl
theorem z3e (l:List (T×T)):(l.map fun p=>(p.1.ren ρ,p.2.ren ρ)).map (·.2)=T.renL ρ (l.map (·.2)):=by
 rw [zkp,List.map_map,List.map_map];rfl
theorem Call.frame {f:FuncId} {args:List T} {v:T} (k:Call P Γ GL f args S0 v S1) (ha:T.idsL S0.n args=true) (hv:v.ids S1.n=true) (F:Fits ρ S0 S1 S S'):Call P Γ GL f (T.renL ρ args) S (v.ren ρ) S':=by
 intro A β s vargs hT hva;have hb0:∀ b,b<S0.n→bcut (fun i=>β (ρ i)) S0.n b=β (ρ b):=fun b hb=>if_pos hb
 have hb1:∀ b l,bcut (fun i=>β (ρ i)) S0.n b=some l→b<S0.n∧β (ρ b)=some l:=fun b l h=>by
  unfold bcut at h;split at h
  ·rename_i hb;exact ⟨hb,h⟩
  ·simp at h
 have hown:∀ f,Own (bcut (fun i=>β (ρ i)) S0.n) f→∃ i,i<S0.n∧((∃ u N,β (ρ i)=some (.live f u N))∨β (ρ i)=some (.map f)):=fun f ⟨b,hb⟩=>by
  rcases hb with ⟨u,N,hb⟩|hb
  ·exact ⟨b,(hb1 _ _ hb).1,.inl ⟨u,N,(hb1 _ _ hb).2⟩⟩
  ·exact ⟨b,(hb1 _ _ hb).1,.inr (hb1 _ _ hb).2⟩
 have hown2:∀ f,Own (bcut (fun i=>β (ρ i)) S0.n) f→Own β f:=fun f hf=>by
  obtain ⟨i,_,h⟩:=hown f hf;exact ⟨ρ i,h⟩
 have hT0:TRel GL A (bcut (fun i=>β (ρ i)) S0.n) S0 s:=by
  refine ⟨hT.inr,hT.inv,hT.alt,fun f hf=>hT.dis f (hown2 f hf),fun b b' l l' f h1 h2 h3 h4=>?_,fun b hb=>if_neg (by omega),fun b z N l hb=>?_,fun b l hb=>?_,hT.glob⟩
  ·obtain ⟨q1,q2⟩:=hb1 _ _ h1;obtain ⟨q3,q4⟩:=hb1 _ _ h2;exact F.inj b b' (by have:=F.le;omega) (by have:=F.le;omega) (hT.inj _ _ _ _ f q2 q4 h3 h4)
  ·have hlt:b<S0.n:=by
    by_cases h:b<S0.n
    ·exact h
    ·rw [F.out b (by omega)] at hb;simp at hb
   obtain ⟨p1,p2⟩:=F.pre b hlt;rw [hb] at p1 p2;obtain ⟨c1,c2⟩:=hT.cells _ _ _ _ p1;refine ⟨by rw [zjb] at c1;exact c1,?_⟩;rcases c2 with ⟨d1,d2,d3⟩|⟨f,u,cs,rest,d1,d2,d3,d4,d5⟩
   ·exact .inl ⟨by rw [hb0 b hlt];exact d1,d2,d3⟩
   ·exact .inr ⟨f,u,cs,rest,by rw [hb0 b hlt];exact d1,d2,d3,VL.down hb0 d4 rfl p2,d5⟩
  ·have hlt:b<S0.n:=by
    by_cases h:b<S0.n
    ·exact h
    ·rw [F.out b (by omega)] at hb;simp at hb
   obtain ⟨p1,p2⟩:=F.pre b hlt;rw [hb] at p1 p2;obtain ⟨r,es,c1,c2,c3,c4⟩:=hT.maps _ _ p1;simp only [zgx,Bool.and_eq_true] at p2;rw [z3f] at c3;rw [z3e] at c4;exact ⟨r,es,by rw [hb0 b hlt];exact c1,c2,VL.down hb0 c3 rfl p2.1,VL.down hb0 c4 rfl p2.2⟩
 obtain ⟨w,s1,A1,β1,e1,e2,e3,e4⟩:=k A _ s vargs hT0 (VL.down hb0 hva rfl ha);have hin:∀ i,i<S1.n→bmix ρ S1.n β1 β (ρ i)=β1 i:=fun i hi=>yi0 F.inj hi
 have hcase:∀ b,(∃ i,i<S1.n∧ρ i=b)∨(∀ i,i<S1.n→ρ i≠b):=fun b=>by
  by_cases h:∃ i,i<S1.n∧ρ i=b
  ·exact .inl h
  ·exact .inr fun i hi hh=>h ⟨i,hi,hh⟩
 have hone:∀ i l,β1 i=some l→i<S1.n:=fun i l h=>by
  by_cases hh:i<S1.n
  ·exact hh
  ·rw [e2.next i (by omega)] at h;simp at h
 have apart:∀ b f,(∀ i,i<S1.n→ρ i≠b)→((∃ u N,β b=some (.live f u N))∨β b=some (.map f))→¬ Own (bcut (fun i=>β (ρ i)) S0.n) f:=fun b f hb hf ho=>by
  obtain ⟨j,hj,h⟩:=hown f ho
  have:ρ j=b:=by
   rcases h with ⟨u,N,h⟩|h<;>rcases hf with ⟨u',N',hf⟩|hf<;>exact hT.inj _ _ _ _ f h hf rfl rfl
  exact hb j (by have:=F.le;omega) this
 have hfamO:∀ b l f,β b=some l→l.fam=some f→((∃ u N,β b=some (.live f u N))∨β b=some (.map f)):=fun b l f h hl=>by
  cases l with
  |live f' u N=>simp [Loc.fam] at hl;subst hl;exact .inl ⟨u,N,h⟩
  |map r=>simp [Loc.fam] at hl;subst hl;exact .inr h
  |nil=>simp [Loc.fam] at hl
  |dead=>simp [Loc.fam] at hl
 have hfam1:∀ i l f,β1 i=some l→l.fam=some f→Own β1 f:=fun i l f h hl=>by
  cases l with
  |live f' u N=>simp [Loc.fam] at hl;subst hl;exact zb2 h
  |map r=>simp [Loc.fam] at hl;subst hl;exact zf7 h
  |nil=>simp [Loc.fam] at hl
  |dead=>simp [Loc.fam] at hl
 have hle:Bx.le β (bmix ρ S1.n β1 β):=fun b l hb=>by
  rcases hcase b with ⟨i,hi,rfl⟩|h
  ·rw [hin i hi];by_cases hip:i<S0.n
   ·exact e4.bx i l (by rw [hb0 i hip];exact hb)
   ·rw [hT.next _ (F.new i (by omega) hi)] at hb;simp at hb
  ·exact ⟨l,by rw [zib h];exact hb,Loc.le_refl l⟩
 have hkeep:∀ f,A f→zag s1.obj f=zag s.obj f:=fun f hf=>e4.keep f (hT.alt f hf) fun ho=>(hT.dis f (hown2 f ho)).2 hf
 have hmix:∀ f,Own (bmix ρ S1.n β1 β) f→Own β1 f∨∃ b,(∀ i,i<S1.n→ρ i≠b)∧((∃ u N,β b=some (.live f u N))∨β b=some (.map f)):=fun f ⟨b,hb⟩=>by
  rcases hcase b with ⟨i,hi,rfl⟩|h
  ·rw [hin i hi] at hb;exact .inl ⟨i,hb⟩
  ·rw [zib h] at hb;exact .inr ⟨b,h,hb⟩
 refine ⟨w,s1,A1,bmix ρ S1.n β1 β,e1,⟨e2.inr,e2.inv,e2.alt,fun f hf=>?_,fun b b' l l' f h1 h2 h3 h4=>?_,fun b hb=>?_,fun b z N l hb=>?_,fun b l hb=>?_,e2.glob⟩,VT.up hin hv e3,⟨e4.can,e4.sub,fun f hf=>(e4.new f hf).imp id (Or.imp id (hown2 f)),fun f hf=>?_,fun f hf ho=>e4.keep f hf fun h=>ho (hown2 f h),hle,fun x hx=>(e4.rd x hx).imp id (fun ⟨a,b⟩=>⟨a,b.imp id (hown2 x)⟩),fun x hx=>(e4.wr x hx).imp id (fun ⟨a,b⟩=>⟨a,hown2 x b⟩)⟩⟩
 ·rcases hmix f hf with h|⟨b,hb,h⟩
  ·exact e2.dis f h
  ·have hd:=hT.dis f ⟨b,h⟩;refine ⟨Nat.lt_of_lt_of_le hd.1 e4.can.n,fun hA=>?_⟩;rcases e4.new f hA with q|q|q
   ·exact hd.2 q
   ·have:=hd.1;omega
   ·exact apart b f hb h q
 ·have z97:∀ i b l l',i<S1.n→(∀ i,i<S1.n→ρ i≠b)→β1 i=some l→β b=some l'→l.fam=some f→l'.fam=some f→False:=fun i b l l' hi hb q1 q2 q3 q4=>by
   have ho:=hfamO b l' f q2 q4;rcases e4.own f (hfam1 i l f q1 q3) with q|q
   ·exact apart b f hb ho q
   ·have:=(hT.dis f ⟨b,ho⟩).1;omega
  rcases hcase b with ⟨i,hi,rfl⟩|hb<;>rcases hcase b' with ⟨j,hj,rfl⟩|hb'
  ·rw [hin i hi] at h1;rw [hin j hj] at h2;rw [e2.inj i j l l' f h1 h2 h3 h4]
  ·rw [hin i hi] at h1;rw [zib hb'] at h2;exact (z97 i b' l l' hi hb' h1 h2 h3 h4).elim
  ·rw [zib hb] at h1;rw [hin j hj] at h2;exact (z97 j b l' l hj hb h2 h1 h4 h3).elim
  ·rw [zib hb] at h1;rw [zib hb'] at h2;exact hT.inj b b' l l' f h1 h2 h3 h4
 ·rw [zib (fun i hi hh=>by have:=F.top i hi;omega)];exact hT.next b (by have:=F.grow;omega)
 ·rcases hcase b with ⟨i,hi,rfl⟩|hbo
  ·obtain ⟨p1,p2⟩:=F.post i hi;rw [hb] at p1
   cases hq:S1.box i with
   |gone=>rw [hq] at p1;simp [zdz] at p1
   |map m=>rw [hq] at p1;simp [zdz] at p1
   |cells z' N' l' =>
    rw [hq] at p1 p2;simp only [zdz,Box.cells.injEq] at p1;obtain ⟨rfl,rfl,rfl⟩:=p1;obtain ⟨c1,c2⟩:=e2.cells _ _ _ _ hq;refine ⟨by rw [zjb];exact c1,?_⟩;rcases c2 with ⟨d1,d2,d3⟩|⟨f,u,cs,rest,d1,d2,d3,d4,d5⟩
    ·exact .inl ⟨by rw [hin i hi];exact d1,d2,d3⟩
    ·exact .inr ⟨f,u,cs,rest,by rw [hin i hi];exact d1,d2,d3,VL.up hin p2 d4,d5⟩
  ·rw [F.rest b hbo] at hb;refine (hT.cells b z N l hb).mono e4.sub hkeep hle (zib hbo) fun f u N' hl=>?_;exact e4.keep f (hT.dis f (zb2 hl)).1 (apart b f hbo (.inl ⟨u,N',hl⟩))
 ·rcases hcase b with ⟨i,hi,rfl⟩|hbo
  ·obtain ⟨p1,p2⟩:=F.post i hi;rw [hb] at p1
   cases hq:S1.box i with
   |gone=>rw [hq] at p1;simp [zdz] at p1
   |cells z N m=>rw [hq] at p1;simp [zdz] at p1
   |map m =>
    rw [hq] at p1 p2;simp only [zdz,Box.map.injEq] at p1;subst p1;obtain ⟨r,es,c1,c2,c3,c4⟩:=e2.maps _ _ hq;simp only [zgx,Bool.and_eq_true] at p2;exact ⟨r,es,by rw [hin i hi];exact c1,c2,by rw [z3f];exact VL.up hin p2.1 c3,by rw [z3e];exact VL.up hin p2.2 c4⟩
  ·rw [F.rest b hbo] at hb;refine (hT.maps b l hb).mono e4.sub hkeep hle (zib hbo) fun r hl=>?_;exact e4.keep r (hT.dis r (zf7 hl)).1 (apart b r hbo (.inr hl))
 ·rcases hmix f hf with h|⟨b,hb,h⟩
  ·exact (e4.own f h).imp (hown2 f) id
  ·exact .inl ⟨b,h⟩
end
end
section
open Go Go.RowKit
theorem zal {α β:Type} {x:Option α} {f:α→Option β} {v:β} (h:x.bind f=some v):∃ a,x=some a∧f a=some v:=by
 cases x with
 |none=>cases h
 |some a=>exact ⟨a,rfl,h⟩
def gx {α:Type} [Inhabited α] (l:List α) (i:Int):α:=l.getD i.toNat default
theorem zgu {α:Type} [Inhabited α] {l:List α} {i:Int} (h:0≤i∧i<(l.length:Int)):l[i.toNat]?=some (gx l i):=zqv (by omega)
def bx (b:ByteArray) (i:Int):UInt8:=b.data.toList.getD i.toNat 0
theorem yiw {b:ByteArray} {i:Int} (h:0≤i∧i<(b.size:Int)):b.data.toList[i.toNat]?=some (bx b i):=by
  have : i.toNat < b.data.toList.length := by have e : b.data.toList.length = b.size := by simp
                                              omega
  unfold bx;rw [List.getD_eq_getElem?_getD,List.getElem?_eq_getElem this];rfl
def vecC {α:Type} (f:α→T) (l:List α):List T:=(l.map f).flatMap T.cells
theorem zdd {α:Type} {f:α→T} {l l2:List α}:vecC f (l++l2)=vecC f l++vecC f l2:=by
 unfold vecC;rw [List.map_append,List.flatMap_append]
theorem z2k {α:Type} {f:α→T} {e:Nat} (h:∀ x,(f x).cells.length=e):∀ (l:List α),(vecC f l).length=l.length*e
 |[]=>by simp [vecC]
 |x :: l=>by
  have ih:=z2k h l;unfold vecC at ih ⊢;rw [List.map_cons,List.flatMap_cons,List.length_append,h,ih,List.length_cons,Nat.add_mul];omega
theorem znh {α:Type} {f:α→T} {e n:Nat} {l:List α} (h:∀ x,(f x).cells.length=e) (hl:l.length=n):(vecC f l).take (n*e)=(l.map f).flatMap T.cells:=by
 have:=z2k h l;rw [List.take_of_length_le (by rw [this,hl];exact Nat.le_refl _)];rfl
theorem ygo {k:IntKind} {l:List Int}:(l.map (T.int k)).flatMap T.cells=l.map (T.int k):=zfu fun _=>rfl
theorem yb8 {l:List Bool}:(l.map T.bool).flatMap T.cells=l.map T.bool:=zfu fun _=>rfl
theorem ygn {l:List ByteArray}:(l.map T.str).flatMap T.cells=l.map T.str:=zfu fun _=>rfl
theorem ygu {k:IntKind} {l:List Int}:(l.map (T.int k)).all T.one=true:=by simp [T.one]
theorem ycq {l:List Bool}:(l.map T.bool).all T.one=true:=by simp [T.one]
theorem ygt {l:List ByteArray}:(l.map T.str).all T.one=true:=by simp [T.one]
section
variable {GL:List (Nat×List Value)} {A A' A2:Nat→Prop} {β β' β2:Bx} {S S' S2:TS} {s s' s2:CS} {P:Program} {Γ:Env} {N:Nat} {h h' h2:Nat→T} {Q R:Exit→(Nat→T)→TS→Prop}
theorem Left.trimN {fr fr':Fr} {keep:List Nat} {bs bs2 extra:List Box} {n:Nat} (hn:bs.length≤n) (hT:TRel GL A β (stL bs) s) (k:Left GL A β s N fr' s' h' (stL (bs2++extra))) (hl:bs2.length=n) (hb:zes n bs2=true) (hk:zhv keep n h'):Left GL A β s N fr' s' (zwp keep h') (stL bs2):=by
 obtain ⟨A',β',k1,k2,k3⟩:=k;have hat:∀ b,b<n→bcut β' n b=β' b:=fun b hb=>if_pos hb
 have hsub:∀ b l,bcut β' n b=some l→β' b=some l:=fun b l h=>by
  unfold bcut at h;split at h
  ·exact h
  ·simp at h
 have hkp:ztt (stL (bs2++extra)) (stL bs2):=by
  refine ⟨by simp [stL],fun b=>?_⟩;by_cases hbl:b<bs2.length
  ·refine .inr ⟨hbl,?_,?_⟩
   ·show bs2.getD b .gone=(bs2++extra).getD b .gone;rw [List.getD_eq_getElem?_getD,List.getD_eq_getElem?_getD,List.getElem?_append_left hbl]
   ·show zgx bs2.length ((bs2++extra).getD b .gone)=true;rw [List.getD_eq_getElem?_getD,List.getElem?_append_left hbl,← List.getD_eq_getElem?_getD,hl];exact zl1 hb
  ·left;show bs2.getD b .gone=.gone;rw [List.getD_eq_getElem?_getD,List.getElem?_eq_none (by omega)];rfl
 have hcut:=k2.cut hkp;have hnn:(stL bs2).n=n:=hl;rw [hnn] at hcut;refine ⟨A',bcut β' n,⟨k1.nt,k1.le,fun t=>?_⟩,hcut,k3.can,k3.sub,k3.new,fun f hf=>?_,k3.keep,fun b l hb'=>?_,k3.rd,k3.wr⟩
 ·by_cases ht:t∈keep
  ·rw [zmg ht];exact (k1.slot t).ids hat (zm8 hk t ht)
  ·rw [show zwp keep h' t=.junk from if_neg ht];exact .junk _
 ·obtain ⟨b,hb'⟩:=hf;exact k3.own f ⟨b,hb'.imp (fun ⟨u,N,h⟩=>⟨u,N,hsub _ _ h⟩) fun h=>hsub _ _ h⟩
 ·obtain ⟨l',c1,c2⟩:=k3.bx b l hb'
  have:b<bs.length:=by
   by_cases hh:b<bs.length
   ·exact hh
   ·rw [hT.next b (by show bs.length≤b;omega)] at hb';simp at hb'
  exact ⟨l',by rw [hat b (by omega)];exact c1,c2⟩
theorem TW.cutN {a:Code} (keep:List Nat) (n:Nat) {bs:List Box} (hn:bs.length≤n) (R:(Nat→T)→List Box→Prop) (hR:TW P Γ GL N a h (stL bs) (onT (fun h' S'=>Ends keep n R h' S') Q)) (hk:∀ h bs2,R h bs2→Q .normal h (stL bs2)):TW P Γ GL N a h (stL bs) Q:=by
 intro A β fr s hF hT;obtain ⟨e,fr1,s1,h1,h',S',hleft,hq⟩:=hR A β fr s hF hT
 cases e with
 |normal =>
  obtain ⟨bs',rfl,hl,hbi,hki,hq⟩:=hq;exact ⟨_,fr1,s1,h1,_,_,Left.trimN (fr:=fr) (keep:=keep) (bs2:=bs'.take n) (extra:=bs'.drop n) hn hT (by rw [List.take_append_drop];exact hleft) (by rw [List.length_take];omega) hbi hki,hk _ _ hq⟩
 |_=>exact ⟨_,fr1,s1,h1,h',S',hleft,hq⟩
theorem TW.unz {c:Code} (b:Nat) {zz:Bool} {M:Nat} {l:List T} (hS:S.box b=.cells zz M l) (k:TW P Γ GL N c h (S.set b (.cells false M l)) Q):TW P Γ GL N c h S Q:=by
 intro A β fr s hF hT
 have hb:∀ b' z N l',(S.set b (.cells false M l)).box b'=.cells z N l'→∃ z0,S.box b'=.cells z0 N l'∧(z=true→z0=true):=fun b' z N l' h=>by
  by_cases hi:b'=b
  ·subst hi;rw [TS.set_same] at h;cases h;exact ⟨zz,hS,fun h=>by cases h⟩
  ·rw [TS.set_ne _ _ hi] at h;exact ⟨z,h,id⟩
 refine k A β fr s hF ⟨hT.inr,hT.inv,hT.alt,hT.dis,hT.inj,hT.next,fun b' z N l' h=>?_,fun b' l' h=>?_,hT.glob⟩
 ·obtain ⟨z0,h0,hz⟩:=hb b' z N l' h;obtain ⟨h1,h2⟩:=hT.cells b' z0 N l' h0;refine ⟨h1,?_⟩;rcases h2 with ⟨q1,q2,q3⟩|⟨f,u,cs,rest,q1,q2,q3⟩
  ·exact .inl ⟨q1,q2,by cases z with|false=>rfl|true=>rw [hz rfl] at q3;exact q3⟩
  ·exact .inr ⟨f,u,cs,rest,q1,fun h=>q2 (hz h),q3⟩
 ·by_cases hi:b'=b
  ·subst hi;rw [TS.set_same] at h;cases h
  ·rw [TS.set_ne _ _ hi] at h;exact hT.maps b' l' h
theorem TW.slot {c:Code} (t:Nat) {v v':T} (ht:h t=v) (hv:∀ A β (g:Nat→Fam) w,VT A β g v w→VT A β g v' w) (k:TW P Γ GL N c (tupd h t v') S Q):TW P Γ GL N c h S Q:=by
 intro A β fr s hF hT
 have hF':FrOk A β (zag s.obj) N (tupd h t v') fr:=⟨hF.nt,hF.le,fun u=>by
  by_cases hu:u=t
  ·subst hu;rw [zjt];have:=hF.slot u;rw [ht] at this;exact hv _ _ _ _ this
  ·rw [zon _ _ _ _ hu];exact hF.slot u⟩
 exact k A β fr s hF' hT
mutual
theorem z4e {n m:Nat} (hnm:n≤m):∀ {t:T},t.ids n=true→t.ids m=true
 |.agg l,h=>zco hnm (l:=l) h
 |.tup l,h=>zco hnm (l:=l) h
 |.lst e l,h=>zco hnm (l:=l) h
 |.cp l,h=>zco hnm (l:=l) h
 |.ptr b o N,h=>by simp only [T.ids] at h ⊢;exact zai.2 (by have:=zai.1 h;omega)
 |.arr b e o l c N,h=>by simp only [T.ids] at h ⊢;exact zai.2 (by have:=zai.1 h;omega)
 |.mp b,h=>by simp only [T.ids] at h ⊢;exact zai.2 (by have:=zai.1 h;omega)
 |.fn f a c,h=>by
  simp only [T.ids,Bool.and_eq_true] at h ⊢;exact ⟨zco hnm h.1,zco hnm h.2⟩
 |.int _ _,_=>rfl
 |.bool _,_=>rfl
 |.str _,_=>rfl
 |.nils,_=>rfl
 |.nilp,_=>rfl
 |.nilm,_=>rfl
 |.nilf,_=>rfl
 |.junk,_=>rfl
 |.emp _,_=>rfl
theorem zco {n m:Nat} (hnm:n≤m):∀ {l:List T},T.idsL n l=true→T.idsL m l=true
 |[],_=>rfl
 |t :: l,h=>by
  simp only [T.idsL,Bool.and_eq_true] at h ⊢;exact ⟨z4e hnm h.1,zco hnm h.2⟩
end
mutual
theorem zgy {ρ:Nat→Nat}:∀ {t:T},t.ids 0=true→t.ren ρ=t
 |.agg l,h=>by rw [T.ren,zcc (l:=l) h]
 |.tup l,h=>by rw [T.ren,zcc (l:=l) h]
 |.lst e l,h=>by rw [T.ren,zcc (l:=l) h]
 |.cp l,h=>by rw [T.ren,zcc (l:=l) h]
 |.ptr b o N,h=>by simp [T.ids,Nat.blt] at h
 |.arr b e o l c N,h=>by simp [T.ids,Nat.blt] at h
 |.mp b,h=>by simp [T.ids,Nat.blt] at h
 |.fn f a c,h=>by
  simp only [T.ids,Bool.and_eq_true] at h;rw [T.ren,zcc (l:=a) h.1,zcc (l:=c) h.2]
 |.int _ _,_=>rfl
 |.bool _,_=>rfl
 |.str _,_=>rfl
 |.nils,_=>rfl
 |.nilp,_=>rfl
 |.nilm,_=>rfl
 |.nilf,_=>rfl
 |.junk,_=>rfl
 |.emp _,_=>rfl
theorem zcc {ρ:Nat→Nat}:∀ {l:List T},T.idsL 0 l=true→T.renL ρ l=l
 |[],_=>rfl
 |t :: l,h=>by
  simp only [T.idsL,Bool.and_eq_true] at h;rw [T.renL,zgy h.1,zcc h.2]
end
theorem ztt.one {z:Bool} {M:Nat} {cs:List T} (h:T.idsL 1 cs=true):ztt (stL [.cells z M cs]) (stL [.cells z M cs]):=by
 refine ⟨Nat.le_refl _,fun b=>?_⟩
 cases b with
 |zero=>exact .inr ⟨by show 0<1;omega,rfl,h⟩
 |succ b=>exact .inl rfl
theorem Call.fresh {f:FuncId} {args:List T} {e n c M:Nat} {z:Bool} {M2:Nat} {cs:List T} (k:Call P Γ GL f args ts0 (.arr 0 e 0 n c M) (stL [.cells z M2 cs])) (ha:T.idsL 0 args=true) (hb:T.idsL 0 cs=true) (bs:List Box):Call P Γ GL f args (stL bs) (.arr bs.length e 0 n c M) (stL (bs++[.cells z M2 cs])):=by
 have:=Call.frame (ρ:=fun i=>bs.length+i) (S:=stL bs) (S':=stL (bs++[.cells z M2 cs])) k ha (by rfl) ⟨Nat.zero_le _,fun b _=>rfl,fun i hi=>absurd hi (by show ¬ i<0;omega),fun i _ hi=>by show bs.length≤bs.length+i;omega,fun i hi=>by have:i<1:=hi;show bs.length+i<(bs++[_]).length;rw [List.length_append];simp;omega,by show bs.length≤(bs++[_]).length;simp,fun i j _ _ h=>by have:bs.length+i=bs.length+j:=h;omega,fun i hi=>absurd hi (by show ¬ i<0;omega),fun i hi=>?_,fun b hb=>?_⟩
 ·rw [zcc ha] at this;exact this
 ·have:i<1:=hi;have:i=0:=by omega
  subst this;constructor
  ·show (bs++[Box.cells z M2 cs]).getD (bs.length+0) .gone=.cells z M2 (T.renL _ cs);rw [zcc hb,Nat.add_zero,List.getD_eq_getElem?_getD,List.getElem?_append_right (Nat.le_refl _)];simp
  ·show T.idsL 1 cs=true
   exact z4h fun t ht=>by
    have:=yaw hb t ht;exact z4e (Nat.zero_le _) this
 ·show (bs++[Box.cells z M2 cs]).getD b .gone=bs.getD b .gone;by_cases hlt:b<bs.length
  ·rw [List.getD_eq_getElem?_getD,List.getD_eq_getElem?_getD,List.getElem?_append_left hlt]
  ·by_cases h2:b=bs.length
   ·exact absurd (h2 ▸ rfl:bs.length+0=b) (hb 0 (by show 0<1;omega))
   ·rw [List.getD_eq_getElem?_getD,List.getD_eq_getElem?_getD,List.getElem?_eq_none (by rw [List.length_append];simp;omega),List.getElem?_eq_none (by omega)]
end
def mset {K V:Type} [DecidableEq K] (k:K) (v:V):List (K×V)→List (K×V)
 |[]=>[(k,v)]
 |p :: l=>if k=p.1 then (k,v) :: l else p :: mset k v l
def mget {K V:Type} [DecidableEq K] (k:K):List (K×V)→Option V
 |[]=>none
 |p :: l=>if k=p.1 then some p.2 else mget k l
theorem keyI {kk:IntKind} {a b:Int}:zph (.int kk a) (.int kk b)=some (decide (a=b)):=by
 show (bif Nat.beq (ikN kk) (ikN kk) then some (a == b) else none)=_;rw [Nat.beq_refl,cond_true];by_cases h:a=b<;>simp [h]
theorem keyS {a b:ByteArray}:zph (.str a) (.str b)=some (decide (a=b)):=by
 show some (a.data.toList == b.data.toList)=_;by_cases h:a=b
 ·subst h;simp
 ·have:(a.data.toList == b.data.toList)=false:=by simpa using fun hh=>h (ByteArray.ext hh)
  rw [this,decide_eq_false h]
theorem zvq {K V:Type} [DecidableEq K] {kf:K→T} {f:V→T} (hk:∀ a b,zph (kf a) (kf b)=some (decide (a=b))) (k:K) (v:V):∀ l:List (K×V),tSet (kf k) (f v) (l.map fun p=>(kf p.1,f p.2))=some ((mset k v l).map fun p=>(kf p.1,f p.2))
 |[]=>rfl
 |p :: l=>by
  rw [List.map_cons,tSet,hk];unfold mset;by_cases h:k=p.1
  ·rw [decide_eq_true h,if_pos h,List.map_cons]
  ·rw [decide_eq_false h,if_neg h,List.map_cons];simp only [zvq hk k v l]
theorem zvr {K V:Type} [DecidableEq K] {kf:K→T} {f:V→T} (hk:∀ a b,zph (kf a) (kf b)=some (decide (a=b))) (k:K):∀ l:List (K×V),tGet (kf k) (l.map fun p=>(kf p.1,f p.2))=some ((mget k l).map f)
 |[]=>rfl
 |p :: l=>by
  rw [List.map_cons,tGet,hk];unfold mget;by_cases h:k=p.1
  ·rw [decide_eq_true h,if_pos h];rfl
  ·rw [decide_eq_false h,if_neg h];exact zvr hk k l
theorem zfy {kk:IntKind} {V:Type} {f:V→T} {k:Int} {v:V} {l:List (Int×V)}:tSet (.int kk k) (f v) (l.map fun p=>(.int kk p.1,f p.2))=some ((mset k v l).map fun p=>(.int kk p.1,f p.2)):=zvq (kf:=T.int kk) (fun _ _=>keyI) k v l
theorem zf0 {kk:IntKind} {V:Type} {f:V→T} {k:Int} {l:List (Int×V)}:tGet (.int kk k) (l.map fun p=>(.int kk p.1,f p.2))=some ((mget k l).map f):=zvr (kf:=T.int kk) (fun _ _=>keyI) k l
theorem zfx {V:Type} {f:V→T} {k:ByteArray} {v:V} {l:List (ByteArray×V)}:tSet (.str k) (f v) (l.map fun p=>(.str p.1,f p.2))=some ((mset k v l).map fun p=>(.str p.1,f p.2)):=zvq (kf:=T.str) (fun _ _=>keyS) k v l
theorem zfz {V:Type} {f:V→T} {k:ByteArray} {l:List (ByteArray×V)}:tGet (.str k) (l.map fun p=>(.str p.1,f p.2))=some ((mget k l).map f):=zvr (kf:=T.str) (fun _ _=>keyS) k l
theorem ybc {V:Type} {f:V→T} {d:V} {o:Option V}:zzi false (f d) (o.map f)=f (o.getD d):=by cases o<;>rfl
theorem ybb {V:Type} {f:V→T} {d:V} {o:Option V}:zzi true (f d) (o.map f)=.tup [f (o.getD d),.bool o.isSome]:=by cases o<;>rfl
theorem zo5:type_of% (And.intro (And.intro (And.intro (@ziz) (And.intro (@Bool.true_and) (@Bool.and_true))) (And.intro (@zgz) (And.intro (@Bool.and_self) (@and_self)))) (And.intro (And.intro (@and_true) (And.intro (@true_and) (@List.take_succ_cons.{0}))) (And.intro (And.intro (@List.take_zero.{0}) (@List.length_cons.{0})) (And.intro (@List.length_nil.{0}) (@Nat.zero_add))))):=And.intro (And.intro (And.intro (@ziz) (And.intro (@Bool.true_and) (@Bool.and_true))) (And.intro (@zgz) (And.intro (@Bool.and_self) (@and_self)))) (And.intro (And.intro (@and_true) (And.intro (@true_and) (@List.take_succ_cons.{0}))) (And.intro (And.intro (@List.take_zero.{0}) (@List.length_cons.{0})) (And.intro (@List.length_nil.{0}) (@Nat.zero_add))))
theorem zbt:type_of% (And.intro (And.intro (And.intro (@T.ids.eq_1) (And.intro (@T.ids.eq_2) (@T.ids.eq_3))) (And.intro (@T.ids.eq_4) (And.intro (@T.ids.eq_5) (@T.ids.eq_6)))) (And.intro (And.intro (@T.ids.eq_7) (And.intro (@T.ids.eq_8) (@T.ids.eq_9))) (And.intro (@T.idsL.eq_1) (And.intro (@T.idsL.eq_2) (@zca))))):=And.intro (And.intro (And.intro (@T.ids.eq_1) (And.intro (@T.ids.eq_2) (@T.ids.eq_3))) (And.intro (@T.ids.eq_4) (And.intro (@T.ids.eq_5) (@T.ids.eq_6)))) (And.intro (And.intro (@T.ids.eq_7) (And.intro (@T.ids.eq_8) (@T.ids.eq_9))) (And.intro (@T.idsL.eq_1) (And.intro (@T.idsL.eq_2) (@zca))))
theorem zbs:type_of% (And.intro (And.intro (@zes.eq_1) (And.intro (@zes.eq_2) (@zgx.eq_1))) (And.intro (And.intro (@zgx.eq_2) (@zgx.eq_3)) (And.intro (@zhv.eq_1) (@zhv.eq_2)))):=And.intro (And.intro (@zes.eq_1) (And.intro (@zes.eq_2) (@zgx.eq_1))) (And.intro (And.intro (@zgx.eq_2) (@zgx.eq_3)) (And.intro (@zhv.eq_1) (@zhv.eq_2)))
theorem scA:type_of% (And.intro (@List.set_cons_zero.{0}) (@List.set_cons_succ.{0})):=And.intro (@List.set_cons_zero.{0}) (@List.set_cons_succ.{0})
theorem scB:type_of% (And.intro (And.intro (@st_n) (And.intro (@List.length_cons.{0}) (@List.length_nil.{0}))) (And.intro (@List.cons_append.{0}) (And.intro (@List.nil_append.{0}) (@Nat.zero_add)))):=And.intro (And.intro (@st_n) (And.intro (@List.length_cons.{0}) (@List.length_nil.{0}))) (And.intro (@List.cons_append.{0}) (And.intro (@List.nil_append.{0}) (@Nat.zero_add)))
theorem gsA:type_of% (And.intro (And.intro (@zca) (And.intro (@List.map_append.{0,0}) (@List.map_cons.{0,0}))) (And.intro (@List.map_nil.{0,0}) (And.intro (@Nat.add_mul) (@Nat.one_mul)))):=And.intro (And.intro (@zca) (And.intro (@List.map_append.{0,0}) (@List.map_cons.{0,0}))) (And.intro (@List.map_nil.{0,0}) (And.intro (@Nat.add_mul) (@Nat.one_mul)))
end
section
open Go Go.RowKit
structure Ar (n:Nat) where
  l:List Int
  h:l.length=n
deriving DecidableEq
instance {n:Nat}:Inhabited (Ar n):=⟨⟨List.replicate n 0,List.length_replicate⟩⟩
theorem Ar.ext' {n:Nat} {a b:Ar n} (h:a.l=b.l):a=b:=by cases a;cases b;cases h;rfl
def mkAr (n:Nat) (l:List Int):Ar n:=⟨(l++List.replicate n 0).take n,by rw [List.length_take,List.length_append,List.length_replicate];omega⟩
theorem z35 {n:Nat} {l:List Int} (h:l.length=n):(mkAr n l).l=l:=by
  show (l++List.replicate n 0).take n=l;rw [List.take_append_of_le_length (by omega),List.take_of_length_le (by omega)]
def zA (n:Nat):Ar n:=⟨List.replicate n 0,List.length_replicate⟩
def zVs (n:Nat) (k:IntKind):List Value:=List.replicate n (.int k 0)
theorem yi7 {n:Nat} {k:IntKind}:zhh (zVs n k)=some ((zA n).l.map (T.int k)):=by
  show zhh (List.replicate n (.int k 0))=some ((List.replicate n 0).map (T.int k))
  induction n with
  |zero=>rfl
  |succ n ih=>rw [List.replicate_succ,List.replicate_succ,List.map_cons];unfold zhh;rw [ih];rfl
def eAr (k:IntKind) {n:Nat} (a:Ar n):T:=.agg (a.l.map (T.int k))
theorem zn6 {k:IntKind} {n:Nat} (a:Ar n):(eAr k a).cells=a.l.map (T.int k):=Eq.trans rfl rfl
theorem zhx {k:IntKind} {n:Nat} (a:Ar n):(eAr k a).cells.length=n:=by rw [zn6,List.length_map,a.h]
theorem zw2 {k:IntKind}:∀ (l:List Int),(l.map (T.int k)).all T.one=true
  |[]=>rfl
  |x :: l=>by rw [List.map_cons,List.all_cons,zw2 l];rfl
theorem zp0 {k:IntKind} {m:Nat}:∀ (l:List Int),T.idsL m (l.map (T.int k))=true
  |[]=>rfl
  |x :: l=>by simp only [List.map_cons,T.idsL,T.ids,zp0 l,Bool.and_self]
theorem z4g {k:IntKind} {m n:Nat} (a:Ar n):(eAr k a).ids m=true:=zp0 a.l
section
variable {P:Program}
theorem ybd (len:Nat) (β:Type) (b:β) (f:Nat→β→Sem (ForInStep β)):(forIn [0:len] b f:Sem β)=forIn (List.range' 0 len) b f:=by
  rw [Std.Legacy.Range.forIn_eq_forIn_range'];simp [Std.Legacy.Range.size]
theorem znq {k:IntKind}:∀ (l:List Int),zpp (l.map (T.int k))=some (l.map (Value.int k))
  |[]=>rfl
  |x :: l=>by rw [List.map_cons];unfold zpp;rw [znq l];rfl
theorem yie {σ:Type} (s0 s1:σ) (x y:List Int) (len:Nat) (hx:x.length=len) (hy:y.length=len) (f:Nat→σ→Sem (ForInStep σ))
    (hf:∀ i (hi:i<len),zb6 P (f i s0)=some (if x[i]=y[i] then .yield s0 else .done s1)) :
    ∀ (m k:Nat),k+m=len→zb6 P (forIn (List.range' k m) s0 f:Sem σ)=some (if x.drop k=y.drop k then s0 else s1):=by
  intro m
  induction m with
  |zero=>intro k hk;simp [List.drop_of_length_le (show x.length≤k by omega),List.drop_of_length_le (show y.length≤k by omega)];rfl
  |succ m ih =>
    intro k hk;have hdx:=List.drop_eq_getElem_cons (show k<x.length by omega);have hdy:=List.drop_eq_getElem_cons (show k<y.length by omega);rw [List.range'_succ,List.forIn_cons,zbg,hf k (by omega)];by_cases hxy:x[k]'(by omega)=y[k]'(by omega)
    · rw [if_pos hxy];show zb6 P (forIn (List.range' (k+1) m) s0 f)=_;rw [ih (k+1) (by omega),hdx,hdy];simp only [hxy,List.cons.injEq,true_and]
    · rw [if_neg hxy,hdx,hdy];simp only [hxy,List.cons.injEq,false_and,if_false];rfl
theorem yko (d:Nat) {e:TypeId} (k k':IntKind) (a b:Int) (he:P.underlying e=some (.int k)):zb6 P (Op.equalIn (d+1) e (.int k' a) (.int k' b))=some (a == b):=by
  unfold Op.equalIn;rw [zbg,zct he];cases k'<;>rfl
theorem ykp (d:Nat) {t e len:Nat} {k:IntKind} {i:TypeInfo} (ht:P.underlying t=some (.array len e)) (he:P.underlying e=some (.int k)) (hi:P.info? e=some i) (hsz:i.size=1) (x y:List Int) (hx:x.length=len) (hy:y.length=len) :
    zb6 P (Op.equalIn (d+2) t (.agg (x.map (Value.int k)).toArray) (.agg (y.map (Value.int k)).toArray))=some (x == y):=by
  have hpart:∀ (l:List Int) (j:Nat) (hk:j<l.length),zb6 P (part e (l.map (Value.int k)).toArray j)=some (.int k l[j]):=by
    intro l j hk
    have hagg:zb6 P (isAgg e)=some false:=by
      unfold isAgg;rw [zbg,zct he];rfl
    have hp:∀ v:Value,zb6 P (pure v:Sem Value)=some v:=fun v=>rfl;simp [part,zbg,hagg,hk,hp]
  have hq:∀ a b:Int,zb6 P (Op.equalIn (d+1) e (.int k a) (.int k b))=some (a == b):=fun a b=>yko d k k a b he;show zb6 P (Op.equalIn ((d+1)+1) _ _ _)=_;generalize d+1=d' at *
  have hsize:zb6 P (sizeOf e)=some 1:=by
    unfold sizeOf typeInfo;rw [zbg,zbg];show ((zb6 P (match P.info? e with|some i=>pure i|none=>_)).bind _)=_;rw [hi];show zb6 P (pure i.size)=_;rw [hsz];rfl
  have hpu:∀ {α:Type} (v:α),zb6 P (pure v:Sem α)=some v:=fun v=>rfl;simp only [Op.equalIn,zbg,zct ht,Option.bind_some,hsize,ybd,Nat.mul_one];rw [yie (P:=P) (none,()) (some false,()) x y len hx hy _ ?_ len 0 (by omega)]
  · by_cases hxy:x=y
    · subst hxy;simp [hpu]
    · simp [hxy,hpu]
  · intro j hk;simp only [zbg,hpart x j (by omega),hpart y j (by omega),Option.bind_some,hq];by_cases hxy:x[j]'(by omega)=y[j]'(by omega)
    · have e1:((x[j]'(by omega)) == (y[j]'(by omega)))=true:=by rw [hxy];simp
      rw [e1,if_pos hxy];simp [hpu]
    · have e1:((x[j]'(by omega)) == (y[j]'(by omega)))=false:=by
        simp only [beq_eq_false_iff_ne,ne_eq];exact hxy
      rw [e1,if_neg hxy];simp [hpu]
variable {Γ:Env} {S:TS} {t:TypeId} {x y:Operand}
theorem z7w {n e:Nat} {k:IntKind} (ht:P.underlying t=some (.array n e)) (he:P.underlying e=some (.int k)) (hi:(P.info? e).map (·.size)=some 1) (hq:P.eqGuardType P.depth t=false) (a b:Ar n) :
    tBin P Γ S t .eql x y (eAr k a) (eAr k b)=some (.bool (decide (a=b)))∧tBin P Γ S t .neq x y (eAr k a) (eAr k b)=some (.bool (!(decide (a=b)))):=by
  obtain ⟨i,hi1,hi2⟩:∃ i,P.info? e=some i∧i.size=1:=by
    cases h:P.info? e with
    |none=>rw [h] at hi;simp at hi
    |some i=>rw [h] at hi;exact ⟨i,rfl,by simpa using hi⟩
  have h:=ykp (P:=P) 9998 ht he hi1 hi2 a.l b.l a.h b.h
  have hg:∀ op,op=.eql∨op=.neq→zb6 P (eqGuard op t x y (.agg (a.l.map (Value.int k)).toArray) (.agg (b.l.map (Value.int k)).toArray))=some ():=by
    intro op hop;rcases hop with rfl|rfl
    · show zb6 P (if !(P.eqGuardType P.depth t) then pure () else _)=some ();rw [hq];rfl
    · show zb6 P (if !(P.eqGuardType P.depth t) then pure () else _)=some ();rw [hq];rfl
  have hd:(a.l == b.l)=decide (a=b):=by
    by_cases hab:a=b
    · rw [hab];simp
    · rw [decide_eq_false hab];have:a.l≠b.l:=fun hh=>hab (Ar.ext' hh);simp [this]
  have he:zb6 P (binOp .eql t (.agg (a.l.map (Value.int k)).toArray) (.agg (b.l.map (Value.int k)).toArray))=some (.bool (decide (a=b))):=by
    show zb6 P (do pure (Value.bool (← Op.equal t (.agg (a.l.map (Value.int k)).toArray) (.agg (b.l.map (Value.int k)).toArray))):Sem Value)=_;have h2:zb6 P (Op.equal t (.agg (a.l.map (Value.int k)).toArray) (.agg (b.l.map (Value.int k)).toArray))=some (a.l == b.l):=h;rw [zbg,h2,hd];rfl
  have hn:zb6 P (binOp .neq t (.agg (a.l.map (Value.int k)).toArray) (.agg (b.l.map (Value.int k)).toArray))=some (.bool (!(decide (a=b)))):=by
    show zb6 P (do pure (Value.bool (!(← Op.equal t (.agg (a.l.map (Value.int k)).toArray) (.agg (b.l.map (Value.int k)).toArray)))):Sem Value)=_;have h2:zb6 P (Op.equal t (.agg (a.l.map (Value.int k)).toArray) (.agg (b.l.map (Value.int k)).toArray))=some (a.l == b.l):=h;rw [zbg,h2,hd];rfl
  constructor
  · show zvj P t .eql x y _ _=_;unfold zvj;rw [znq,znq];simp only;rw [zbg,hg _ (.inl rfl)];show (match zb6 P (binOp .eql t (.agg (a.l.map (Value.int k)).toArray) (.agg (b.l.map (Value.int k)).toArray)) with|some (.bool r)=>some (T.bool r)|_=>none)=_;rw [he]
  · show zvj P t .neq x y _ _=_;unfold zvj;rw [znq,znq];simp only;rw [zbg,hg _ (.inr rfl)];show (match zb6 P (binOp .neq t (.agg (a.l.map (Value.int k)).toArray) (.agg (b.l.map (Value.int k)).toArray)) with|some (.bool r)=>some (T.bool r)|_=>none)=_;rw [hn]
end
end
section
open Go Go.RowKit
noncomputable def aggO:Option (List T)→Option T
  |some l=>some (.agg l)
  |none=>none
theorem fn8 (ax:Axs):(EE ax).fn.at 8=some Tryd.f8:=by kernel_rfl
theorem fn9 (ax:Axs):(EE ax).fn.at 9=some Tryd.f9:=by kernel_rfl
theorem fn10 (ax:Axs):(EE ax).fn.at 10=some Tryd.f10:=by kernel_rfl
theorem fn11 (ax:Axs):(EE ax).fn.at 11=some Tryd.f11:=by kernel_rfl
theorem fn12 (ax:Axs):(EE ax).fn.at 12=some Tryd.f12:=by kernel_rfl
theorem fn13 (ax:Axs):(EE ax).fn.at 13=some Tryd.f13:=by kernel_rfl
theorem fn14 (ax:Axs):(EE ax).fn.at 14=some Tryd.f14:=by kernel_rfl
theorem fn16 (ax:Axs):(EE ax).fn.at 16=some Tryd.f16:=by kernel_rfl
theorem fn18 (ax:Axs):(EE ax).fn.at 18=some Tryd.f18:=by kernel_rfl
theorem fn20 (ax:Axs):(EE ax).fn.at 20=some Tryd.f20:=by kernel_rfl
theorem fn21 (ax:Axs):(EE ax).fn.at 21=some Tryd.f21:=by kernel_rfl
theorem fn22 (ax:Axs):(EE ax).fn.at 22=some Tryd.f22:=by kernel_rfl
theorem fn25 (ax:Axs):(EE ax).fn.at 25=some Tryd.f25:=by kernel_rfl
theorem fn27 (ax:Axs):(EE ax).fn.at 27=some Tryd.f27:=by kernel_rfl
theorem fn29 (ax:Axs):(EE ax).fn.at 29=some Tryd.f29:=by kernel_rfl
theorem fn30 (ax:Axs):(EE ax).fn.at 30=some Tryd.f30:=by kernel_rfl
theorem fn31 (ax:Axs):(EE ax).fn.at 31=some Tryd.f31:=by kernel_rfl
theorem fn35 (ax:Axs):(EE ax).fn.at 35=some Tryd.f35:=by kernel_rfl
theorem fn37 (ax:Axs):(EE ax).fn.at 37=some Tryd.f37:=by kernel_rfl
theorem fn38 (ax:Axs):(EE ax).fn.at 38=some Tryd.f38:=by kernel_rfl
theorem fn39 (ax:Axs):(EE ax).fn.at 39=some Tryd.f39:=by kernel_rfl
theorem fn40 (ax:Axs):(EE ax).fn.at 40=some Tryd.f40:=by kernel_rfl
theorem fn41 (ax:Axs):(EE ax).fn.at 41=some Tryd.f41:=by kernel_rfl
theorem fn42 (ax:Axs):(EE ax).fn.at 42=some Tryd.f42:=by kernel_rfl
theorem fn44 (ax:Axs):(EE ax).fn.at 44=some Tryd.f44:=by kernel_rfl
theorem fn45 (ax:Axs):(EE ax).fn.at 45=some Tryd.f45:=by kernel_rfl
theorem fn46 (ax:Axs):(EE ax).fn.at 46=some Tryd.f46:=by kernel_rfl
theorem fn47 (ax:Axs):(EE ax).fn.at 47=some Tryd.f47:=by kernel_rfl
theorem fn48 (ax:Axs):(EE ax).fn.at 48=some Tryd.f48:=by kernel_rfl
theorem fn50 (ax:Axs):(EE ax).fn.at 50=some Tryd.f50:=by kernel_rfl
theorem fn58 (ax:Axs):(EE ax).fn.at 58=some Tryd.f58:=by kernel_rfl
theorem fn59 (ax:Axs):(EE ax).fn.at 59=some Tryd.f59:=by kernel_rfl
theorem fn60 (ax:Axs):(EE ax).fn.at 60=some Tryd.f60:=by kernel_rfl
theorem fn68 (ax:Axs):(EE ax).fn.at 68=some Tryd.f68:=by kernel_rfl
theorem fn69 (ax:Axs):(EE ax).fn.at 69=some Tryd.f69:=by kernel_rfl
theorem fn75 (ax:Axs):(EE ax).fn.at 75=some Tryd.f75:=by kernel_rfl
theorem ti30 (ax:Axs):(EE ax).ti.at 30=some ⟨.int .i64,1,8,[.int .i64 0]⟩:=by kernel_rfl
theorem ti40 (ax:Axs):(EE ax).ti.at 40=some ⟨.int .u16,1,2,[.int .u16 0]⟩:=by kernel_rfl
theorem sr43 (ax:Axs):srcT (EE ax) 43=true:=by kernel_rfl
theorem ti48 (ax:Axs):(EE ax).ti.at 48=some ⟨.slice 23,1,24,[.slice none 0 0]⟩:=by kernel_rfl
theorem sr48 (ax:Axs):srcT (EE ax) 48=true:=by kernel_rfl
theorem ti49 (ax:Axs):(EE ax).ti.at 49=some ⟨.slice 48,1,24,[.slice none 0 0]⟩:=by kernel_rfl
theorem sr49 (ax:Axs):srcT (EE ax) 49=true:=by kernel_rfl
theorem sr56 (ax:Axs):srcT (EE ax) 56=true:=by kernel_rfl
theorem ti66 (ax:Axs):(EE ax).ti.at 66=some ⟨.slice 3,1,24,[.slice none 0 0]⟩:=by kernel_rfl
theorem sr66 (ax:Axs):srcT (EE ax) 66=true:=by kernel_rfl
theorem el43 (ax:Axs):zb7 (EE ax) 43=some ⟨.int .u8,1,1,[.int .u8 0]⟩:=by kernel_rfl
theorem el48 (ax:Axs):zb7 (EE ax) 48=some ⟨.array 16 5,16,16,[.int .u8 0,.int .u8 0,.int .u8 0,.int .u8 0,.int .u8 0,.int .u8 0,.int .u8 0,.int .u8 0,.int .u8 0,.int .u8 0,.int .u8 0,.int .u8 0,.int .u8 0,.int .u8 0,.int .u8 0,.int .u8 0]⟩:=by kernel_rfl
theorem el49 (ax:Axs):zb7 (EE ax) 49=some ⟨.slice 23,1,24,[.slice none 0 0]⟩:=by kernel_rfl
theorem el56 (ax:Axs):zb7 (EE ax) 56=some ⟨.string,1,16,[.string ⟨#[]⟩]⟩:=by kernel_rfl
theorem el66 (ax:Axs):zb7 (EE ax) 66=some ⟨.int .i64,1,8,[.int .i64 0]⟩:=by kernel_rfl
theorem tz23 (ax:Axs):(EE ax).ti.at 23=some ⟨.array 16 5,16,16,zVs 16 .u8⟩:=by kernel_rfl
theorem aq23 (ax:Axs) (a b:Ar 16):(∀ (S:TS) (x y:Operand),tBin Tryd.prog (EE ax) S 23 .eql x y (.agg (a.l.map (T.int .u8))) (.agg (b.l.map (T.int .u8)))=some (.bool (decide (a=b))))∧(∀ (S:TS) (x y:Operand),tBin Tryd.prog (EE ax) S 23 .neq x y (.agg (a.l.map (T.int .u8))) (.agg (b.l.map (T.int .u8)))=some (.bool (!(decide (a=b))))):=⟨fun _ _ _=>(z7w (e:=5) (by kernel_rfl) (by kernel_rfl) (by kernel_rfl) (by kernel_rfl) a b).1,fun _ _ _=>(z7w (e:=5) (by kernel_rfl) (by kernel_rfl) (by kernel_rfl) (by kernel_rfl) a b).2⟩
theorem tz25 (ax:Axs):(EE ax).ti.at 25=some ⟨.array 35 3,35,280,zVs 35 .i64⟩:=by kernel_rfl
noncomputable def fd60:TypeDesc:=match Tryd.prog.underlying 60 with|some d=>d|none=>.bool
theorem ti60 (ax:Axs):(EE ax).ti.at 60=some ⟨fd60,1,8,[.nilFunc]⟩:=by kernel_rfl
theorem ag60:aggT fd60=false:=by kernel_rfl
end
section
open Go Go.RowKit
section
variable {GL:List (Nat×List Value)} {A A' A2:Nat→Prop} {β β' β2:Bx} {S S' S2:TS} {s s' s2:CS} {P:Program} {Γ:Env} {N:Nat} {h h' h2:Nat→T} {Q R:Exit→(Nat→T)→TS→Prop}
theorem VL.setAt {g:Nat→Fam} {t:T} {v:Value}:∀ {l:List T} {vs:List Value} {i:Nat},VL A β g l vs→vs[i]?=some v→VT A β g t v→VL A β g (l.set i t) vs
 |[],_,_,.nil,_,_=>.nil
 |x :: l,y :: vs,0,.cons k1 k2,hv,ht=>by
  simp only [List.getElem?_cons_zero,Option.some.injEq] at hv;subst hv;exact .cons ht k2
 |x :: l,y :: vs,i+1,.cons k1 k2,hv,ht=>.cons k1 (VL.setAt k2 (by simpa using hv) ht)
theorem TW.freezeC {c:Code} (c0 i:Nat) {b e len M N0:Nat} {z z0:Bool} {l l0:List T} (L:List T) (hS0:S.box c0=.cells z0 N0 l0) (hi:l0[i]?=some (.arr b e 0 len len M)) (hne:c0≠b) (hS:S.box b=.cells z M l) (he:0<e) (hoff:0+len*e≤M) (hL:(l.drop 0).take (len*e)=L.flatMap T.cells) (hs:∀ t,t∈L→t.cells.length=e) (hlen:L.length=len)
    (k:TW P Γ GL N c h ((S.set c0 (.cells z0 N0 (l0.set i (.lst e L)))).set b .gone) Q):TW P Γ GL N c h S Q:=by
  intro A β fr s hF hT;obtain ⟨A',β',k1,k2,k3⟩:=hT.freeze hS;obtain ⟨n0,hc⟩:=hT.cells c0 z0 N0 l0 hS0;have hS0':(S.set b .gone).box c0=.cells z0 N0 l0:=by rw [TS.set_ne _ _ hne];exact hS0
  obtain ⟨n1,hc'⟩:=k1.cells c0 z0 N0 l0 hS0';have hi0:i<l0.length:=(List.getElem?_eq_some_iff.1 hi).1
  have hnew:zha A' β' (zag s.obj) c0 z0 N0 (l0.set i (.lst e L)):=by
    rcases hc with ⟨_,q,_⟩|⟨f,u,cs,rest,a1,a2,a3,a4,a5⟩
    · omega
    · rcases hc' with ⟨_,q,_⟩|⟨f',u',cs',rest',b1,b2,b3,b4,b5⟩
      · omega
      · obtain ⟨l',c1,c2⟩:=k2.bx c0 _ a1;rw [b1] at c1;cases c1;simp only [Loc.le] at c2;rcases c2 with ⟨rfl,rfl,_⟩|c2
        · rw [a3] at b3;simp only [Fam.mk.injEq,List.cons.injEq,Prod.mk.injEq] at b3;obtain ⟨_,⟨⟨_,rfl⟩,rfl⟩,_⟩:=b3;obtain ⟨v,v1,v2⟩:=a4.get hi;refine ⟨by rw [List.length_set];exact n0,.inr ⟨f,u,cs,rest,b1,a2,a3,b4.setAt v1 (k3 v2 he hoff hL hs hlen (Nat.le_refl _)),a5⟩⟩
        · omega
  have hT':TRel GL A' β' ((S.set c0 (.cells z0 N0 (l0.set i (.lst e L)))).set b .gone) s:=by
    refine ⟨k1.inr,k1.inv,k1.alt,k1.dis,k1.inj,k1.next,fun b' z N' l' hb'=>?_,fun b' l' hb'=>?_,k1.glob⟩
    · by_cases e1:b'=b
      · subst e1;rw [TS.set_same] at hb';cases hb'
      · rw [TS.set_ne _ _ e1] at hb';by_cases e2:b'=c0
        · subst e2;rw [TS.set_same] at hb';cases hb';exact hnew
        · rw [TS.set_ne _ _ e2] at hb';exact k1.cells b' z N' l' (by rw [TS.set_ne _ _ e1];exact hb')
    · by_cases e1:b'=b
      · subst e1;rw [TS.set_same] at hb';cases hb'
      · rw [TS.set_ne _ _ e1] at hb';by_cases e2:b'=c0
        · subst e2;rw [TS.set_same] at hb';cases hb'
        · rw [TS.set_ne _ _ e2] at hb';exact k1.maps b' l' (by rw [TS.set_ne _ _ e1];exact hb')
  have hF':FrOk A' β' (zag s.obj) N h fr:=⟨hF.nt,hF.le,fun u=>k2.vt hT (hF.slot u)⟩;refine (k A' β' fr s hF' hT').mono ?_;rintro e2 fr2 s2 ⟨h2,S2,l2,q2⟩;exact ⟨h2,S2,Left.trans (h':=h) (fr':=fr) hT.le k2 l2,q2⟩
theorem TW.nilC {c:Code} (c0 i e:Nat) {N0:Nat} {z0:Bool} {l0:List T} (hS0:S.box c0=.cells z0 N0 l0) (hi:l0[i]?=some .nils) (k:TW P Γ GL N c h (S.set c0 (.cells z0 N0 (l0.set i (.lst e [])))) Q):TW P Γ GL N c h S Q:=by
 intro A β fr s hF hT;obtain ⟨n0,hc⟩:=hT.cells c0 z0 N0 l0 hS0;have hi0:i<l0.length:=(List.getElem?_eq_some_iff.1 hi).1
 have hnew:zha A β (zag s.obj) c0 z0 N0 (l0.set i (.lst e [])):=by
  rcases hc with ⟨_,q,_⟩|⟨f,u,cs,rest,a1,a2,a3,a4,a5⟩
  ·omega
  ·obtain ⟨v,v1,v2⟩:=a4.get hi;refine ⟨by rw [List.length_set];exact n0,.inr ⟨f,u,cs,rest,a1,a2,a3,a4.setAt v1 ?_,a5⟩⟩;cases v2;exact .lnil
 have hT':TRel GL A β (S.set c0 (.cells z0 N0 (l0.set i (.lst e [])))) s:=by
  refine ⟨hT.inr,hT.inv,hT.alt,hT.dis,hT.inj,hT.next,fun b' z N' l' hb'=>?_,fun b' l' hb'=>?_,hT.glob⟩
  ·by_cases e2:b'=c0
   ·subst e2;rw [TS.set_same] at hb';cases hb';exact hnew
   ·rw [TS.set_ne _ _ e2] at hb';exact hT.cells b' z N' l' hb'
  ·by_cases e2:b'=c0
   ·subst e2;rw [TS.set_same] at hb';cases hb'
   ·rw [TS.set_ne _ _ e2] at hb';exact hT.maps b' l' hb'
 exact k A β fr s hF hT'
theorem TW.vecC {c:Code} (c0 i e:Nat) {N0:Nat} {z0:Bool} {l0:List T} (hS0:S.box c0=.cells z0 N0 l0) (hi:l0[i]?=some .nils) (h0:c0<S.n) (k:TW P Γ GL N c h ((S.set c0 (.cells z0 N0 (l0.set i (.arr S.n e 0 0 0 0)))).add (.cells false 0 [])) Q):TW P Γ GL N c h S Q:=by
 intro A β fr s hF hT;have hb0:β S.n=none:=hT.next _ (Nat.le_refl _)
 have hle:Bx.le β (bnew β S.n .nil):=ztb hb0;have hse:bnew β S.n .nil S.n=some .nil:=if_pos rfl;have hne:∀ b',b'≠S.n→bnew β S.n .nil b'=β b':=fun b' hb'=>if_neg hb'
 have hown:∀ f,Own (bnew β S.n .nil) f→Own β f:=fun f ⟨b',hb'⟩=>by
  by_cases hi:b'=S.n
  ·subst hi;rw [hse] at hb';rcases hb' with ⟨u,N,hb'⟩|hb'<;>simp at hb'
  ·rw [hne b' hi] at hb';exact ⟨b',hb'⟩
 have hst:Stp A β s A (bnew β S.n .nil) s:=⟨Can.refl _,fun _ h=>h,fun _ h=>.inl h,fun f hf=>.inl (hown f hf),fun _ _ _=>rfl,hle,fun _ h=>.inl h,fun _ h=>.inl h⟩;obtain ⟨n0,hc⟩:=hT.cells c0 z0 N0 l0 hS0;have hi0:i<l0.length:=(List.getElem?_eq_some_iff.1 hi).1
 have hnew:zha A (bnew β S.n .nil) (zag s.obj) c0 z0 N0 (l0.set i (.arr S.n e 0 0 0 0)):=by
  rcases hc with ⟨_,q,_⟩|⟨f,u,cs,rest,a1,a2,a3,a4,a5⟩
  ·omega
  ·obtain ⟨v,v1,v2⟩:=a4.get hi;have a4':=a4.mono (A':=A) (β':=bnew β S.n .nil) (g':=zag s.obj) (fun _ h=>h) (fun _ _=>rfl) hle;refine ⟨by rw [List.length_set];exact n0,.inr ⟨f,u,cs,rest,by rw [hne c0 (by omega)];exact a1,a2,a3,a4'.setAt v1 ?_,a5⟩⟩;cases v2;exact .arrNil hse
 have hT':TRel GL A (bnew β S.n .nil) ((S.set c0 (.cells z0 N0 (l0.set i (.arr S.n e 0 0 0 0)))).add (.cells false 0 [])) s:=by
  refine ⟨hT.inr,hT.inv,hT.alt,fun f hf=>hT.dis f (hown f hf),fun b1 b2 l1 l2 f h1 h2 h3 h4=>?_,fun b' hb'=>?_,fun b' z N l hb'=>?_,fun b' l hb'=>?_,hT.glob⟩
  ·by_cases e1:b1=S.n
   ·subst e1;rw [hse] at h1;cases h1;simp [Loc.fam] at h3
   ·by_cases e2:b2=S.n
    ·subst e2;rw [hse] at h2;cases h2;simp [Loc.fam] at h4
    ·rw [hne b1 e1] at h1;rw [hne b2 e2] at h2;exact hT.inj b1 b2 l1 l2 f h1 h2 h3 h4
  ·have:S.n+1≤b':=hb';rw [hne b' (by omega)];exact hT.next b' (by omega)
  ·by_cases hi:b'=S.n
   ·subst hi;have hq:=(TS.add_same (S.set c0 (.cells z0 N0 (l0.set i (.arr S.n e 0 0 0 0)))) (.cells false 0 [])).symm.trans hb';cases hq;exact ⟨rfl,.inl ⟨hse,rfl,rfl⟩⟩
   ·rw [TS.add_ne _ _ (show b'≠(S.set c0 (.cells z0 N0 (l0.set i (.arr S.n e 0 0 0 0)))).n from hi)] at hb';by_cases e2:b'=c0
    ·subst e2;rw [TS.set_same] at hb';cases hb';exact hnew
    ·rw [TS.set_ne _ _ e2] at hb';exact (hT.cells b' z N l hb').mono (fun _ h=>h) (fun _ _=>rfl) hle (hne b' hi) fun _ _ _ _=>rfl
  ·by_cases hi:b'=S.n
   ·subst hi;have hq:=(TS.add_same (S.set c0 (.cells z0 N0 (l0.set i (.arr S.n e 0 0 0 0)))) (.cells false 0 [])).symm.trans hb';cases hq
   ·rw [TS.add_ne _ _ (show b'≠(S.set c0 (.cells z0 N0 (l0.set i (.arr S.n e 0 0 0 0)))).n from hi)] at hb';by_cases e2:b'=c0
    ·subst e2;rw [TS.set_same] at hb';cases hb'
    ·rw [TS.set_ne _ _ e2] at hb';exact (hT.maps b' l hb').mono (fun _ h=>h) (fun _ _=>rfl) hle (hne b' hi) fun _ _=>rfl
 have hF':FrOk A (bnew β S.n .nil) (zag s.obj) N h fr:=⟨hF.nt,hF.le,fun u=>hst.vt hT (hF.slot u)⟩;refine (k A _ fr s hF' hT').mono ?_;rintro e2 fr2 s2 ⟨h2,S2,l2,q2⟩;exact ⟨h2,S2,Left.trans (h':=h) (fr':=fr) hT.le hst l2,q2⟩
end
def Le1:List T→List T→Prop
 |[],[]=>True
 |t :: l,t' :: l'=>(t=t'∨(t=.nils∧∃ e,t'=.lst e []))∧Le1 l l'
 |_,_=>False
def Le2:List T→List T→Prop
 |[],[]=>True
 |t :: l,t' :: l'=>(t=t'∨(t=.nils∧∃ e,t'=.lst e [])∨∃ m m',t=.agg m∧t'=.agg m'∧Le1 m m')∧Le2 l l'
 |_,_=>False
theorem Le1.vl {A:Nat→Prop} {β:Bx} {g:Nat→Fam}:∀ {l l':List T} {vs:List Value},Le1 l l'→VL A β g l vs→VL A β g l' vs
 |[],[],_,_,.nil=>.nil
 |t :: l,t' :: l',_,h,.cons k1 k2=>by
  obtain ⟨h1,h2⟩:=h;rcases h1 with rfl|⟨rfl,e,rfl⟩
  ·exact .cons k1 (Le1.vl h2 k2)
  ·cases k1;exact .cons .lnil (Le1.vl h2 k2)
theorem Le2.vl {A:Nat→Prop} {β:Bx} {g:Nat→Fam}:∀ {l l':List T} {vs:List Value},Le2 l l'→VL A β g l vs→VL A β g l' vs
 |[],[],_,_,.nil=>.nil
 |t :: l,t' :: l',_,h,.cons k1 k2=>by
  obtain ⟨h1,h2⟩:=h;rcases h1 with rfl|⟨rfl,e,rfl⟩|⟨m,m',rfl,rfl,h3⟩
  ·exact .cons k1 (Le2.vl h2 k2)
  ·cases k1;exact .cons .lnil (Le2.vl h2 k2)
  ·cases k1 with|agg k=>exact .cons (.agg (h3.vl k)) (Le2.vl h2 k2)
theorem ztc {n:Nat} {i:Int} (h:0≤i∧i≤(n:Int)):zbc n n (some (.int .i64 i)) none none=some (i.toNat,n,n):=by
 obtain ⟨k,rfl⟩:∃ k:Nat,i=(k:Int):=⟨i.toNat,by omega⟩;exact zq4 rfl (by omega) (Nat.le_refl _)
end
section
open Go Go.RowKit
theorem Ar.len {n:Nat} (a:Ar n):a.l.length=n:=a.h
def Ar.set {n:Nat} (a:Ar n) (i v:Int):Ar n:=⟨a.l.set i.toNat v,by rw [List.length_set,a.h]⟩
theorem ybp {k:IntKind} {n:Nat} (a:Ar n):eAr k a=.agg (a.l.map (T.int k)):=Eq.trans rfl rfl
theorem ygs {k:IntKind} {n:Nat} (a:Ar n):(a.l.map (T.int k)).take n=a.l.map (T.int k):=List.take_of_length_le (by rw [List.length_map,a.h];omega)
theorem arIx {n:Nat} (a:Ar n) {i:Int} (h:0≤i∧i<(n:Int)):a.l[i.toNat]?=some (gx a.l i):=zgu (by rw [a.h];exact h)
theorem ykz {k:IntKind} {n:Nat} (a b:Ar n):spl (a.l.map (T.int k)) 0 (b.l.map (T.int k))=b.l.map (T.int k):=by
  unfold spl;rw [List.take_zero,List.nil_append,List.drop_of_length_le (by rw [List.length_map,List.length_map,a.h,b.h];omega),List.append_nil]
theorem zxi {k:IntKind} {n:Nat} (a:Ar n) {i:Int} (v:Int) (h:0≤i∧i<(n:Int)):spl (a.l.map (T.int k)) i.toNat [T.int k v]=(a.set i v).l.map (T.int k):=by
  exact z8a (f:=T.int k) (v:=v) (L:=a.l) (i:=i.toNat) (by rw [a.h];omega)
theorem arCp {k:IntKind} {n:Nat} (a:Ar n) {i:Int} (h:0≤i∧i<(n:Int)):((a.l.map (T.int k)).drop i.toNat)[0]?=some (T.int k (gx a.l i)):=by
  rw [List.getElem?_drop,Nat.add_zero,List.getElem?_map,arIx a h];rfl
def u8o (z:Int):UInt8:=UInt8.ofNat z.toNat
def strL (l:List Int):ByteArray:=⟨(l.map u8o).toArray⟩
def bytL (s:ByteArray):List Int:=s.data.toList.map fun c=>(c.toNat:Int)
theorem zhg (s:ByteArray):(bytL s).length=s.size:=by unfold bytL;rw [List.length_map];exact Array.length_toList
theorem zoe (s:ByteArray):zgj s=(bytL s).map (T.int .u8):=by
  unfold zgj bytL;rw [List.map_map];rfl
theorem zxj:∀ (l:List Int),ztf (l.map (T.int .u8))=some (l.map u8o)
  |[]=>rfl
  |x :: l=>by rw [List.map_cons];unfold ztf;rw [zxj l];rfl
theorem z2o (l:List Int):(⟨(l.map u8o).toArray⟩:ByteArray)=strL l:=Eq.trans rfl rfl
theorem zq0 {k:IntKind}:∀ (l:List Int),(l.map (T.int k)).flatMap T.cells=l.map (T.int k)
  |[]=>rfl
  |x :: l=>by rw [List.map_cons,List.flatMap_cons,zq0 l];rfl
theorem zre {k:IntKind} {l:List Int} {n:Nat} (h:l.length=n):(l.map (T.int k)).take n=l.map (T.int k):=List.take_of_length_le (by rw [List.length_map,h];omega)
theorem z7m {k:IntKind} {l:List Int}:(l.map (T.int k)).take l.length=l.map (T.int k):=zre rfl
def cpA {n:Nat} (a:Ar n) (s:ByteArray):Ar n:=⟨(bytL s).take (min s.size n)++a.l.drop (min s.size n),by rw [List.length_append,List.length_take,List.length_drop,zhg,a.h];omega⟩
theorem ycp {n:Nat} (a:Ar n) (s:ByteArray):spl (a.l.map (T.int .u8)) 0 (((bytL s).map (T.int .u8)).take (min s.size n))=(cpA a s).l.map (T.int .u8):=by
  unfold spl cpA;rw [List.take_zero,List.nil_append,List.length_take,List.length_map,zhg,List.map_append,List.map_take,List.map_drop,Nat.zero_add];congr 2;omega
theorem ycs {k:IntKind} {l:List Int} {n:Nat}:((l.map (T.int k)).take n).all T.one=true:=by rw [← List.map_take];exact zw2 _
theorem ygq {n:Nat}:zbc n n none none none=some (0,n,n):=zmo (Nat.le_refl _)
theorem ye8 {m n:ByteArray} (h:m.size+n.size≤9223372036854775807):zrj .add m n=some (.str (m++n)):=if_pos h
theorem yhh {Γ:Env} {t e' z bb:Nat} {zs:List Value} (hi:Γ.ti.at t=some ⟨.slice e',z,bb,zs⟩):∀ (P:Program) (S:TS) (b e o l c N:Nat) (x y:Operand),S.has b N=true→0<N→tBin P Γ S t .eql x y (.arr b e o l c N) .nils=some (.bool false):=by
  intro P S b e o l c N x y hb hN
  show (match Γ.ti.at t with
    |some i=>(match tNil S i.desc (.arr b e o l c N),tNil S i.desc .nils with
      |some p,some q=>bif p || q then some (T.bool (p && q)) else none
      |_,_=>none)
    |none=>none)=_
  rw [hi];simp only [tNil,hb,zgz hN,Bool.and_self,cond_true,Bool.false_or,Bool.false_and]
theorem zqi {k:IntKind} {n:Nat} (r:Ar n):vecC (eAr k) [r]=r.l.map (T.int k):=by
  unfold vecC;rw [List.map_cons,List.map_nil,List.flatMap_cons,List.flatMap_nil,List.append_nil,zn6]
theorem rep1N:rep (1:Int).toNat [T.nils]=[T.nils]:=Eq.trans rfl rfl
theorem yh2 (a n:Nat):min a n≤n:=Nat.min_le_right _ _
theorem sub0 {n:Nat}:n - 0=n:=Nat.sub_zero n
theorem zw3 {k:IntKind} {n:Nat}:∀ x:Ar n,(eAr k x).cells.length=n:=zhx
end
section
open Go Go.RowKit
def zdf (x:UInt32) (i:Nat):UInt32:=zkk x (32 - i) ||| zx1 x i
theorem and31 (i:Nat) (h:i<32) (h0:0<i):IntKind.u64.wrap (BitVec.ofInt IntKind.u64.bits (IntKind.u64.wrap (-(i:Int))) &&& BitVec.ofInt IntKind.u64.bits 31).toNat=((32 - i:Nat):Int):=by
  have:∀ i:Fin 32,0<i.val→IntKind.u64.wrap (BitVec.ofInt IntKind.u64.bits (IntKind.u64.wrap (-(i.val:Int))) &&& BitVec.ofInt IntKind.u64.bits 31).toNat=((32 - i.val:Nat):Int):=by decide
  exact this ⟨i,h⟩ h0
theorem sub32 (i:Nat) (h:i<32):(32:Int) - ((32 - i:Nat):Int)=(i:Int):=by omega
theorem yjk (i:Nat) (h:i<32):(32:Int) - (i:Int)=((32 - i:Nat):Int):=by omega
theorem yh1 (i:Nat) (h:i<32):IntKind.i64.wrap (0 - (i:Int))=-(i:Int):=zac (n:=0 - (i:Int)) (by omega) |>.trans (by omega)
theorem zkn (ax:Axs) (hax:ax 76=none) (x:UInt32) (i:Nat) (h0:0<i) (h1:i<32) (s:CS):za0 Tryd.prog (EE ax) 76 [vw x,.int .i64 (-(i:Int))] s=some (vw (zdf x i),s):=by
  refine zod (fn:=Tryd.f76) 17 hax (fn76 ax) rfl Tryd.ntmps76 (by simp) ?_;simp (disch:=omega) only [zaz,za6,Nat.reduceAdd];apply W.seq;apply W.region
  · simp (disch:=first|omega | (simp (disch:=omega) [wE];done) | (apply zac;omega) | (apply zad;omega)) only [zhl,zja,zfd,zh7,zgw,zfb,zfk,zh9,zia,zkw,zn8,zaw,zgv,zmx,get_of,zaa,zab,zak,ti3,ti47,ti68,ti5,ti9];with_reducible rfl
  simp only [onN];apply W.seq;apply W.region
  · simp (disch:=first|omega | (simp (disch:=omega) [wE];done) | (apply zac;omega) | (apply zad;omega)) only [zhl,zja,zfd,zh7,zgw,zfb,zfk,zh9,zia,zkw,zn8,zaw,zgv,zmx,get_of,zaa,zab,zak,ti3,ti47,ti68,ti5,ti9,zho,yfn,and31 i h1 h0];with_reducible rfl
  simp only [onN];apply W.seq;apply W.region
  · simp (disch:=first|omega | (simp (disch:=omega) [wE];done) | (apply zac;omega) | (apply zad;omega)) only [zhl,zja,zfd,zh7,zgw,zfb,zfk,zh9,zia,zkw,zn8,zaw,zgv,zmx,get_of,zaa,zab,zak,ti3,ti47,ti68,ti5,ti9,zlo,ycg,z0l,yew,sub32 i h1];with_reducible rfl
  simp only [onN];apply W.ret;refine ⟨.inr rfl,[vw (zdf x i)],?_,rfl⟩;simp (disch:=omega) only [resC,Tryd.results76,get_of,zaa];rfl
def zi5 (ax:Axs):Prop:=∀ f,[66,59].contains f=false→ax f=none
def zyy (x:UInt32) (i j k:Nat):UInt32:=zdf x i ^^^ zdf x j ^^^ zdf x k
theorem z98 (ax:Axs) (hp:zi5 ax) (x:UInt32) (i j k:Nat) (hi0:0<i) (hi:i<32) (hj0:0<j) (hj:j<32) (hk0:0<k) (hk:k<32) (s:CS):za0 Tryd.prog (EE ax) 74 [vw x,.int .i64 (i:Int),.int .i64 (j:Int),.int .i64 (k:Int)] s=some (vw (zyy x i j k),s):=by
  have hax:ax 74=none:=hp _ (by decide);have hr:ax 76=none:=hp _ (by decide);have ri:=zkn ax hr x i hi0 hi;have rj:=zkn ax hr x j hj0 hj;have rk:=zkn ax hr x k hk0 hk;refine zod (fn:=Tryd.f74) 23 hax (fn74 ax) rfl Tryd.ntmps74 (by simp) ?_;simp (disch:=omega) only [zaz,za6,Nat.reduceAdd];apply W.seq;apply W.region
  · simp (disch:=first|omega | (simp (disch:=omega) [wE];done) | (apply zac;omega) | (apply zad;omega)) only [zhl,zja,zfd,zh7,zgw,zfb,zfk,zh9,zia,zkw,zn8,zaw,zgv,zmx,get_of,zaa,zab,zak,ti3,ti47,ti68,ti5,ti9];with_reducible rfl
  simp only [onN];apply W.seq;apply W.region
  · simp (disch:=first|omega | (simp (disch:=omega) [wE];done) | (apply zac;omega) | (apply zad;omega)) only [zhl,zja,zfd,zh7,zgw,zfb,zfk,zh9,zia,zkw,zn8,zaw,zgv,zmx,get_of,zaa,zab,zak,ti3,ti47,ti68,ti5,ti9,zw8,List.map_cons,List.map_nil,List.toList_toArray,yfp,yh1 i hi,yh1 j hj,yh1 k hk,ri,rj,rk,zof];with_reducible rfl
  simp only [onN];apply W.ret;refine ⟨.inr rfl,[vw (zyy x i j k)],?_,rfl⟩;simp (disch:=omega) only [resC,Tryd.results74,get_of,zaa];all_goals rfl
theorem zhd (ax:Axs) (hp:zi5 ax) (x:UInt32) (i:Nat) (h0:0<i) (h1:i<32) (s:CS):za0 Tryd.prog (EE ax) 72 [vw x,.int .i64 (i:Int)] s=some (vw (zdf x i),s):=by
  have hax:ax 72=none:=hp _ (by decide);have hor:zx1 x i ||| zkk x (32 - i)=zdf x i:=UInt32.or_comm _ _
  obtain ⟨n,ob,lim,rd,wr⟩:=s;refine zod (fn:=Tryd.f72) 13 hax (fn72 ax) rfl Tryd.ntmps72 (by simp) ?_;simp (disch:=omega) only [zaz,za6,Nat.reduceAdd];apply W.seq;apply W.region
  · simp (disch:=first|omega | (simp (disch:=omega) [wE];done) | (apply zac;omega) | (apply zad;omega)) only [zhl,zja,zfd,zh7,zgw,zfb,zfk,zh9,zia,zkw,zn8,zaw,zgv,zmx,get_of,zaa,zab,zak,ti3,ti47,ti68,ti5,ti9];with_reducible rfl
  simp only [onN];apply W.seq;apply W.quiet
  · simp (disch:=first|omega | (simp (disch:=omega) [wE];done) | (apply zac;omega) | (apply zad;omega)) only [ze2,zgf,zbq,zgc,zfd,zh7,zgw,zfb,zfk,zh9,zia,zkw,zn8,zaw,zgv,zmx,get_of,zaa,zab,zak,ti3,ti47,ti68,ti5,ti9,zlo,ycg,z0l,yew,yjk i h1,hor];with_reducible rfl
  simp only [onN];apply W.ret;refine ⟨.inr rfl,[vw (zdf x i)],?_,rfl⟩;simp (disch:=omega) only [resC,Tryd.results72,get_of,zaa];all_goals rfl
end
section
open Go Go.RowKit
end
section
open Go Go.RowKit
def word (bs:List UInt8) (t:Nat):Nat→UInt32
 |0=>0
 |j+1=>zkk (word bs t j) 8 ||| (bs.getD (4*t+j) 0).toUInt32
def sig0 (p:UInt32):UInt32:=zdf p 7 ^^^ zdf p 18 ^^^ zx1 p 3
def sig1 (p:UInt32):UInt32:=zdf p 17 ^^^ zdf p 19 ^^^ zx1 p 10
def z90 (w:List UInt32) (t:Nat):UInt32:=w.getD (t - 16) 0+sig0 (w.getD (t - 15) 0)+w.getD (t - 7) 0+sig1 (w.getD (t - 2) 0)
def zaj (bs:List UInt8):Nat→List UInt32
 |0=>List.replicate 64 0
 |t+1=>(zaj bs t).set t (if t<16 then word bs t 4 else z90 (zaj bs t) t)
theorem zba (bs:List UInt8):∀ t,(zaj bs t).length=64
 |0=>by simp [zaj]
 |t+1=>by rw [zaj,List.length_set,zba bs t]
theorem zt8 (bs:List UInt8):∀ t i,t≤i→(zaj bs t).getD i 0=0
 |0,i,_=>by
  rw [zaj,List.getD_eq_getElem?_getD];by_cases hi:i<64
  ·rw [List.getElem?_replicate_of_lt hi];rfl
  ·rw [List.getElem?_eq_none (by simp;omega)];rfl
 |t+1,i,h=>by
  rw [zaj,List.getD_eq_getElem?_getD,List.getElem?_set_ne (by omega),← List.getD_eq_getElem?_getD];exact zt8 bs t i (by omega)
theorem z6g (bs:List UInt8) (t:Nat) (h:t<64):(zaj bs t).set t (word bs t 0)=zaj bs t:=by
 apply List.ext_getElem?;intro i;by_cases hi:t=i
 ·subst hi;have hl:=zba bs t;have h0:=zt8 bs t t (Nat.le_refl _);rw [List.getElem?_set_self (by omega)];rw [List.getD_eq_getElem?_getD] at h0;rw [List.getElem?_eq_getElem (by omega)] at h0 ⊢;simp at h0;rw [h0];rfl
 ·rw [List.getElem?_set_ne hi]
theorem zn3 {l:List UInt32} {k:Nat} {x:UInt32} (h:k<l.length):(l.set k x).getD k 0=x:=by
 rw [List.getD_eq_getElem?_getD,List.getElem?_set_self h];rfl
theorem z8o (ax:Axs) (hp:zi5 ax) (bs:List UInt8) (fb ub off len cap:Nat) (n:Nat) (g:Nat→Fam) (lim:Nat) (rd wr:List Nat) (hl:lim≤n) (hb:BSl g n fb ub off len cap bs) (h64:len=64) (hc1:cap<1000000000) :
    ∃ n' g' rd',za0 Tryd.prog (EE ax) 73 [.slice (some (mkA fb ub off)) len cap] (St n g lim rd wr)=some (.agg (wvs (zaj bs 64)).toArray,St n' g' lim rd' wr)∧n≤n'∧n'≤n+2∧(∀ i,i<n→g' i=g i)∧(∀ x,x∈rd'→x∈rd∨(x=fb∧x<lim)):=by
  have hax:ax 73=none:=hp _ (by decide);have hr:=hp 76 (by decide);obtain ⟨cs,hrow,hcs⟩:=hb.row;have hbl:=hb.lt;have hbc:=hb.fits
  suffices hh:∃ v s2,za0 Tryd.prog (EE ax) 73 [.slice (some (mkA fb ub off)) len cap] (St n g lim rd wr)=some (v,s2)∧v=.agg (wvs (zaj bs 64)).toArray∧∃ n' g' rd',s2=St n' g' lim rd' wr∧n≤n'∧n'≤n+2∧(∀ i,i<n→g' i=g i)∧(∀ x,x∈rd'→x∈rd∨(x=fb∧x<lim)) by
    obtain ⟨v,s2,h1,rfl,n',g',rd',rfl,h2⟩:=hh;exact ⟨n',g',rd',h1,h2⟩
  refine zf1 (fn:=Tryd.f73) 79 hax (fn73 ax) rfl Tryd.ntmps73 (by simp) ?_;simp (disch:=omega) only [zaz,za6,Nat.reduceAdd];repeat apply W.seq
  apply W.region
  · simp (disch:=first|omega | (simp (disch:=omega) [wE];done) | (apply zac;omega) | (apply zad;omega)) only [ti3,ti47,ti5,ti68,ti43,za9 (ti90 ax),wB0,wB1,wC];with_reducible rfl
  simp only [onN,onB];repeat apply W.seq
  apply W.region
  · simp (disch:=first|omega | (simp (disch:=omega) [wE];done) | (apply zac;omega) | (apply zad;omega)) only [ti3,ti47,ti5,ti68,ti43,za9 (ti90 ax),wB0,wB1,wC];with_reducible rfl
  simp only [onN,onB];repeat apply W.seq
  apply W.region
  · simp (disch:=first|omega | (simp (disch:=omega) [wE];done) | (apply zac;omega) | (apply zad;omega)) only [ti3,ti47,ti5,ti68,ti43,wB0,wB1,wC];with_reducible rfl
  simp only [onN,onB];repeat apply W.seq
  apply W.block;refine W.loop (fun m fr s=>∃ (t:Nat) (h:Nat→Value) (g':Nat→Fam) (rd':List Nat),t≤64∧m=64 - t∧fr=Fr.of 79 h∧s=St (n+2) g' lim rd' wr∧h 0=.slice (some (mkA fb ub off)) len cap∧h 2=.pointer (some (mkA n (n*1024+0) 0))∧h 3=.pointer (some (mkA (n+1) ((n+1)*1024+0) 0))∧h 11=.int .i64 (t:Int)∧g' (n+1)=⟨false,[((n+1)*1024+0,wvs (zaj bs t))],none⟩∧g' n=⟨false,[(n*1024+0,List.replicate 64 (vw 0))],none⟩∧(∀ i,i<n→g' i=g i)∧(∀ x,x∈rd'→x∈rd∨(x=fb∧x<lim))) ?_ (64 - 0) _ _ ⟨0,_,_,rd,by omega,rfl,rfl,rfl,?_,?_,?_,?_,?_,?_,?_,fun x hx=>.inl hx⟩
  case refine_2=>simp (disch:=omega) only [zaa,zab]
  case refine_3=>simp (disch:=omega) only [zaa,zab]
  case refine_4=>simp (disch:=omega) only [zaa,zab]
  case refine_5=>simp (disch:=omega) only [zaa,zab];rfl
  case refine_6=>rw [zaf];rfl
  case refine_7=>rw [zae _ _ _ _ (by omega),zaf];rfl
  case refine_8=>intro i hi;rw [zae _ _ _ _ (by omega),zae _ _ _ _ (by omega)]
  rintro m fr s ⟨t,h,g',rd',ht,rfl,rfl,rfl,h0,h2,h3,h11,hw,hz,hg,hrd⟩;repeat apply W.seq
  apply W.region
  · simp (disch:=first|omega | (simp (disch:=omega) [wE,h11];done) | (apply zac;omega) | (apply zad;omega)) only [ti3,ti47,ti5,ti68,ti43,zgt,h11,wB0,wB1,wC];with_reducible rfl
  simp only [onN,onB];by_cases hlt:(t:Int)<64
  case neg =>
    repeat apply W.seq
    refine W.cond (b:=false) ?_ ?_
    · simp (disch:=omega) only [zaw,get_of,zaa,zab,hlt,decide_true,decide_false]
    simp only [cond_true,cond_false];apply W.exit;simp only [onN,onB,Nat.beq_refl,cond_true,cond_false,zmt];have hte:t=64:=by omega
    subst hte;have L1:=ze5 (Γ:=EE ax) (n:=n+2) (lim:=lim) (rd:=rd') (wr:=wr) (ti90 ax) rfl (g:=g') (f:=n+1) (u:=(n+1)*1024+0) (cs:=wvs (zaj bs 64)) (by rw [hw];exact zah) (by rw [zav,zba]);rw [zau _ (by omega)] at L1;have S1:=zen (Γ:=EE ax) (n:=n+2) (lim:=lim) (rd:=rd') (wr:=wr) (ti90 ax) (f:=n) (u:=n*1024+0) (vs:=wvs (zaj bs 64)) hz (by rw [zav,zba]) (by simp) (zin _);rw [zau _ (by omega)] at S1;repeat apply W.seq
    apply W.region
    · simp (disch:=first|omega | (simp (disch:=omega) [wE,h2,h3];done) | (apply zac;omega) | (apply zad;omega)) only [ti3,ti47,ti5,ti68,ti43,h2,h3,L1,zas,S1,wB0,wB1,wC];with_reducible rfl
    simp only [onN,onB];apply W.ret;refine ⟨.inr rfl,[.agg (wvs (zaj bs 64)).toArray],St (n+2) (fupd g' n ⟨false,[(n*1024+0,wvs (zaj bs 64))],none⟩) lim rd' wr,?_,rfl,n+2,_,rd',rfl,by omega,by omega,fun i hi=>by rw [zae _ _ _ _ (by omega)];exact hg i hi,hrd⟩;have L2:=ze5 (Γ:=EE ax) (n:=n+2) (lim:=lim) (rd:=rd') (wr:=wr) (ti90 ax) rfl (g:=fupd g' n ⟨false,[(n*1024+0,wvs (zaj bs 64))],none⟩) (f:=n) (u:=n*1024+0) (cs:=wvs (zaj bs 64)) (by rw [zaf];exact zah) (by rw [zav,zba]);rw [zau _ (by omega)] at L2;simp (disch:=first|omega | (simp (disch:=omega) only [get_of,zaa,zab,h2];done)) only [ze0 (ad:=mkA n (n*1024+0) 0),zgr,Tryd.results73,get_of,zaa,zab,h2,L2,zb5,zcn]
  have htl:t<64:=by omega
  repeat apply W.seq
  refine W.cond (b:=true) ?_ ?_
  · simp (disch:=omega) only [zaw,get_of,zaa,zab,hlt,decide_true,decide_false]
  simp only [cond_true,cond_false];apply W.skip;simp only [onN,onB];repeat apply W.seq
  apply W.block;repeat apply W.seq
  apply W.region
  · simp (disch:=first|omega | (simp (disch:=omega) [wE,h11];done) | (apply zac;omega) | (apply zad;omega)) only [ti3,ti47,ti5,ti68,ti43,h11,wB0,wB1,wC];with_reducible rfl
  simp only [onN,onB];repeat apply W.seq
  apply W.region
  · simp (disch:=first|omega | (simp (disch:=omega) [wE];done) | (apply zac;omega) | (apply zad;omega)) only [ti3,ti47,ti5,ti68,ti43,zgt,wB0,wB1,wC];with_reducible rfl
  simp only [onN,onB];by_cases h16:(t:Int)<16
  case pos =>
    repeat apply W.seq
    refine W.cond (b:=true) ?_ ?_
    · simp (disch:=omega) only [zaw,get_of,zaa,zab,h16,decide_true,decide_false]
    simp only [cond_true,cond_false];have c1:(4:Int)*(t:Int)=((4*t:Nat):Int):=by omega
    have c2:((4*t:Nat):Int)+4=((4*t+4:Nat):Int):=by omega
    have c4:4*t+4 - 4*t=4:=by omega
    have hbd:=z0m (len:=len) (cap:=cap) (za5 .i64 (4*t)) (za5 .i64 (4*t+4)) (by omega) (by omega);repeat apply W.seq
    apply W.region
    · simp (disch:=first|omega | (simp (disch:=omega) [wE,h0,h11];done) | (apply zac;omega) | (apply zad;omega) | (rw [c1,c2];apply zac;omega)) only [ti3,ti47,ti5,ti68,ti43,h0,h11,znv,c1,zd0,c2,z2u (ti43 ax) (ti5 ax) hbd hb.tag,Nat.mul_one,c4,zsg (ti43 ax),yd3,wB0,wB1,wC];with_reducible rfl
    simp only [onN,onB];repeat apply W.seq
    apply W.block;refine W.loop (fun m fr s=>∃ (j:Nat) (h':Nat→Value) (g2:Nat→Fam) (rd2:List Nat),j≤4∧m=4 - j∧fr=Fr.of 79 h'∧s=St (n+2) g2 lim rd2 wr∧h' 0=.slice (some (mkA fb ub off)) len cap∧h' 2=.pointer (some (mkA n (n*1024+0) 0))∧h' 3=.pointer (some (mkA (n+1) ((n+1)*1024+0) 0))∧h' 4=.int .i64 (t:Int)∧h' 11=.int .i64 (t:Int)∧h' 22=.slice (some (mkA fb ub (off+4*t))) 4 (cap - 4*t)∧h' 23=.int .i64 4∧h' 24=.int .i64 (j:Int)∧g2 (n+1)=⟨false,[((n+1)*1024+0,wvs ((zaj bs t).set t (word bs t j)))],none⟩∧g2 n=⟨false,[(n*1024+0,List.replicate 64 (vw 0))],none⟩∧(∀ i,i<n→g2 i=g i)∧(∀ x,x∈rd2→x∈rd∨(x=fb∧x<lim))) ?_ (4 - 0) _ _ ⟨0,_,g',rd',by omega,rfl,rfl,rfl,?_,?_,?_,?_,?_,?_,?_,?_,?_,hz,hg,hrd⟩
    case refine_2=>simp (disch:=omega) only [zaa,zab,h0]
    case refine_3=>simp (disch:=omega) only [zaa,zab,h2]
    case refine_4=>simp (disch:=omega) only [zaa,zab,h3]
    case refine_5=>simp (disch:=omega) only [zaa,zab]
    case refine_6=>simp (disch:=omega) only [zaa,zab,h11]
    case refine_7=>simp (disch:=omega) only [zaa,zab]
    case refine_8=>simp (disch:=omega) only [zaa,zab]
    case refine_9=>simp (disch:=omega) only [zaa,zab];rfl
    case refine_10=>rw [hw,z6g bs t htl]
    clear h0 h2 h3 h11 hw hz hg hrd;rintro m fr s ⟨j,h',g2,rd2,hj,rfl,rfl,rfl,h0,h2,h3,h4,h11,h22,h23,h24,hw,hz,hg,hrd⟩;repeat apply W.seq
    apply W.region
    · simp (disch:=first|omega | (simp (disch:=omega) [wE,h23,h24];done) | (apply zac;omega) | (apply zad;omega)) only [ti3,ti47,ti5,ti68,ti43,zgt,h23,h24,wB0,wB1,wC];with_reducible rfl
    simp only [onN,onB];by_cases hlj:(j:Int)<4
    case neg =>
      repeat apply W.seq
      refine W.cond (b:=false) ?_ ?_
      · simp (disch:=omega) only [zaw,get_of,zaa,zab,hlj,decide_true,decide_false]
      simp only [cond_true,cond_false];apply W.exit;simp only [onN,onB,Nat.beq_refl,cond_true,cond_false,zmt];apply W.exit;simp only [onN,onB,Nat.beq_refl,cond_true];repeat apply W.seq
      apply W.region
      · simp (disch:=first|omega | (simp (disch:=omega) [wE,h11];done) | (apply zac;omega) | (apply zad;omega)) only [ti3,ti47,ti5,ti68,ti43,zd0,h11,wB0,wB1,wC];with_reducible rfl
      simp only [onN,onB];have hj4:j=4:=by omega
      subst hj4;refine ⟨64 - (t+1),by omega,t+1,_,g2,rd2,by omega,rfl,rfl,rfl,?_,?_,?_,?_,?_,hz,hg,hrd⟩
      · simp (disch:=omega) only [zaa,zab,h0]
      · simp (disch:=omega) only [zaa,zab,h2]
      · simp (disch:=omega) only [zaa,zab,h3]
      · simp (disch:=omega) only [zaa,zab];rfl
      · rw [hw,zaj,if_pos (by omega)]
    have hjl:j<4:=by omega
    repeat apply W.seq
    refine W.cond (b:=true) ?_ ?_
    · simp (disch:=omega) only [zaw,get_of,zaa,zab,hlj,decide_true,decide_false]
    simp only [cond_true,cond_false];apply W.skip;simp only [onN,onB];have hbt:=hcs (4*t+j) (by omega);rw [show off+(4*t+j)=off+4*t+j by omega] at hbt;have hlw:((zaj bs t).set t (word bs t j)).length=64:=by rw [List.length_set,zba]
    have B1:=zhq (n:=n+2) (lim:=lim) (rd:=rd2) (wr:=wr) (ti5 ax) rfl (g:=g2) (f:=fb) (u:=ub) (off:=off+4*t+j) (cs:=cs) (by rw [hg fb hbl];exact hrow) hbt;have A1:=zhq (n:=n+2) (lim:=lim) (rd:=ins lim rd2 fb) (wr:=wr) (ti68 ax) rfl (g:=g2) (f:=n+1) (u:=(n+1)*1024+0) (off:=0+t) (cs:=wvs ((zaj bs t).set t (word bs t j))) (by rw [hw];exact zah) (by rw [Nat.zero_add];exact zdi (by omega));rw [zau (f:=n+1) _ (by omega),zn3 (by rw [zba];omega)] at A1;have C1:=fun v hv=>zpl (n:=n+2) (lim:=lim) (rd:=ins lim rd2 fb) (wr:=wr) (ti68 ax) (g:=g2) (f:=n+1) (u:=(n+1)*1024+0) (off:=0+t) (v:=v) hw (by rw [zav];omega) hv;simp only [zau (f:=n+1) _ (show lim≤n+1 by omega)] at C1;repeat apply W.seq
    apply W.block;repeat apply W.seq
    apply W.region
    · simp (disch:=first|omega | (simp (disch:=omega) [wE,h22,h24];done) | (apply zac;omega) | (apply zad;omega)) only [ti3,ti47,ti5,ti68,ti43,h22,h24,za5,zuv (ti43 ax) (ti5 ax) hjl,B1,wB0,wB1,wC];with_reducible rfl
    simp only [onN,onB];repeat apply W.seq
    apply W.region
    · simp (disch:=first|omega | (simp (disch:=omega) [wE,h3,h4];done) | (apply zac;omega) | (apply zad;omega)) only [ti3,ti47,ti5,ti68,ti43,h3,h4,za5,zao (ti90 ax) (ti68 ax) htl,A1,z5x,yb3 (ti5 ax) (ti68 ax),yew,zhf,C1 _ (zrc _),wB0,wB1,wC];with_reducible rfl
    simp only [onN,onB];repeat apply W.seq
    apply W.region
    · simp (disch:=first|omega | (simp (disch:=omega) [wE,h24];done) | (apply zac;omega) | (apply zad;omega)) only [ti3,ti47,ti5,ti68,ti43,zd0,h24,wB0,wB1,wC];with_reducible rfl
    simp only [onN,onB];refine ⟨4 - (j+1),by omega,j+1,_,_,_,by omega,rfl,rfl,rfl,?_,?_,?_,?_,?_,?_,?_,?_,?_,?_,?_,?_⟩
    · simp (disch:=omega) only [zaa,zab,h0]
    · simp (disch:=omega) only [zaa,zab,h2]
    · simp (disch:=omega) only [zaa,zab,h3]
    · simp (disch:=omega) only [zaa,zab,h4]
    · simp (disch:=omega) only [zaa,zab,h11]
    · simp (disch:=omega) only [zaa,zab,h22]
    · simp (disch:=omega) only [zaa,zab,h23]
    · simp (disch:=omega) only [zaa,zab];rfl
    · rw [zaf,Nat.zero_add,zm3,List.set_set];rfl
    · rw [zae _ _ _ _ (by omega)];exact hz
    · intro i hi;rw [zae _ _ _ _ (by omega)];exact hg i hi
    · intro x hx;rcases zcf hx with hx|hx
      · exact hrd x hx
      · exact .inr hx
  repeat apply W.seq
  refine W.cond (b:=false) ?_ ?_
  · simp (disch:=omega) only [zaw,get_of,zaa,zab,h16,decide_true,decide_false]
  simp only [cond_true,cond_false];apply W.skip;simp only [onN,onB];have ht16:16≤t:=by omega
  have c15:(t:Int) - 15=((t - 15:Nat):Int):=by omega
  have c2:(t:Int) - 2=((t - 2:Nat):Int):=by omega
  have c16:(t:Int) - 16=((t - 16:Nat):Int):=by omega
  have c7:(t:Int) - 7=((t - 7:Nat):Int):=by omega
  have LQ:=fun (lim':Nat) (k:Nat) (hk:k<64)=>ld_q (n:=n+2) (ti68 ax) rfl (g:=g') (f:=n+1) (u:=(n+1)*1024+0) (off:=0+k) (cs:=wvs (zaj bs t)) (by rw [hw];exact zah) (by rw [Nat.zero_add];exact zdi (by rw [zba];exact hk)) (by omega);have IG:=fun l=>zau (m:=lim) (f:=n+1) l (by omega);repeat apply W.seq
  apply W.quiet
  · simp (disch:=first|omega | (simp (disch:=omega) [wE,h3,h11];done) | (apply zac;omega) | (apply zad;omega)) only [ti3,ti47,ti5,ti68,ti43,ze2,zgf,zbq,zgc,zkd,h3,h11,zlo,c15,c2,za5,zao (ti90 ax) (ti68 ax) (show t - 15<64 by omega),zao (ti90 ax) (ti68 ax) (show t - 2<64 by omega),LQ 0 (t - 15) (by omega),LQ 0 (t - 2) (by omega),IG,wB0,wB1,wC];with_reducible rfl
  simp only [onN,onB];have R7:∀ x s,za0 Tryd.prog (EE ax) 76 [vw x,.int .i64 (-7)] s=some (vw (zdf x 7),s):=fun x s=>zkn ax hr x 7 (by omega) (by omega) s;have R18:∀ x s,za0 Tryd.prog (EE ax) 76 [vw x,.int .i64 (-18)] s=some (vw (zdf x 18),s):=fun x s=>zkn ax hr x 18 (by omega) (by omega) s;have R17:∀ x s,za0 Tryd.prog (EE ax) 76 [vw x,.int .i64 (-17)] s=some (vw (zdf x 17),s):=fun x s=>zkn ax hr x 17 (by omega) (by omega) s;have R19:∀ x s,za0 Tryd.prog (EE ax) 76 [vw x,.int .i64 (-19)] s=some (vw (zdf x 19),s):=fun x s=>zkn ax hr x 19 (by omega) (by omega) s;repeat apply W.seq
  apply W.region
  · simp (disch:=first|omega | (simp (disch:=omega) [wE];done) | (apply zac;omega) | (apply zad;omega)) only [ti3,ti47,ti5,ti68,ti43,R7,R18,zof,zq3,wB0,wB1,wC];with_reducible rfl
  simp only [onN,onB];repeat apply W.seq
  apply W.region
  · simp (disch:=first|omega | (simp (disch:=omega) [wE];done) | (apply zac;omega) | (apply zad;omega)) only [ti3,ti47,ti5,ti68,ti43,R17,R19,zof,zq3,wB0,wB1,wC];with_reducible rfl
  simp only [onN,onB];have C1:=fun v hv=>st_q (n:=n+2) (ti68 ax) (g:=g') (f:=n+1) (u:=(n+1)*1024+0) (off:=0+t) (v:=v) hw (by rw [zav,zba];omega) hv (by omega);repeat apply W.seq
  apply W.last
  · kernel_rfl
  · simp (disch:=first|omega | (simp (disch:=omega) [wE,h3,h11];done) | (apply zac;omega) | (apply zad;omega)) only [ti3,ti47,ti5,ti68,ti43,zcd,zcs,zbq,zdj,zgl,zdq,zb8,zbn,h3,h11,zlo,c16,c7,za5,zao (ti90 ax) (ti68 ax) (show t - 16<64 by omega),zao (ti90 ax) (ti68 ax) (show t - 7<64 by omega),zao (ti90 ax) (ti68 ax) htl,LQ 0 (t - 16) (by omega),LQ 0 (t - 7) (by omega),IG,zk4,zhf,C1 _ (zrc _),wB0,wB1,wC];with_reducible rfl
  simp only [onN,onB];repeat apply W.seq
  apply W.region
  · simp (disch:=first|omega | (simp (disch:=omega) [wE,h11];done) | (apply zac;omega) | (apply zad;omega)) only [ti3,ti47,ti5,ti68,ti43,zd0,h11,wB0,wB1,wC];with_reducible rfl
  simp only [onN,onB];refine ⟨64 - (t+1),by omega,t+1,_,_,rd',by omega,rfl,rfl,rfl,?_,?_,?_,?_,?_,?_,?_,hrd⟩
  · simp (disch:=omega) only [zaa,zab,h0]
  · simp (disch:=omega) only [zaa,zab,h2]
  · simp (disch:=omega) only [zaa,zab,h3]
  · simp (disch:=omega) only [zaa,zab];rfl
  · rw [zaf,Nat.zero_add,zm3,zaj,if_neg (by omega)];rfl
  · rw [zae _ _ _ _ (by omega)];exact hz
  · intro i hi;rw [zae _ _ _ _ (by omega)];exact hg i hi
end
end Go.Proofs.YtcgdomhednbdpaaDoor
