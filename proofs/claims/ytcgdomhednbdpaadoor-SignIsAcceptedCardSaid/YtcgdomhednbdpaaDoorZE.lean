/- Part 5 of the proof of SignIsAccepted (several texts in one; no further condition). -/
import Derived.Test.YtcgdomhednbdpaaDoorZD
import Derived.Test.YtcgdomhednbdpaaDoorZC
import Derived.KernelRfl
set_option linter.unusedSimpArgs false
set_option linter.unusedVariables false
set_option linter.unusedSectionVars false
namespace Go.Proofs.YtcgdomhednbdpaaDoor
open Go Go.RowKit
noncomputable def callP (P:Program) (Γ:Env) (GL:List (Nat×List Value)) (S:TS) (args:List T) (f:T) (r:T):Option Prop:=match f with
 |.fn k first cap=>some (Call0 P Γ GL k (first++args++cap) S r)
 |_=>none
noncomputable def andP (p:Prop):Option (Prop×(Nat→T))→Option (Prop×(Nat→T))
 |some (q,h)=>some (p∧q,h)
 |none=>none
noncomputable def runP (P:Program) (Γ:Env) (GL:List (Nat×List Value)) (ops:List Oper):List Oper→(Nat→T)→TS→List T→Option (Prop×(Nat→T))
 |[],h,_,_=>some (True,h)
 |o :: l,h,S,outs=>match guardT ops h o.guard with
  |none=>none
  |some false=>runP P Γ GL ops l (putT h o.dst (.tup [])) S outs
  |some true=>match o.op with
   |.call ⟨.value f,args,tys⟩=>(match outs with
    |r :: outs=>(match callP P Γ GL S (args.toList.map (evalT GL h)) (evalT GL h f) r with
     |some p=>andP p (runP P Γ GL ops l (putT h o.dst r) S outs)
     |none=>none)
    |[]=>none)
   |_=>(match stepP P Γ (evalT GL h) o S with
    |some t=>runP P Γ GL ops l (putT h o.dst t) S outs
    |none=>none)
noncomputable def depBad (ops:List Oper) (x y:Oper):Bool:=match x.dst with|some d=>has (namesOf ops y) d|none=>false
noncomputable def tagOps:Nat→List Oper→List (Bool×Oper)
 |_,[]=>[]
 |0,o :: l=>(true,o) :: tagOps 0 l
 |k+1,o :: l=>(false,o) :: tagOps k l
noncomputable def lateBad (x y:Bool×Oper):Bool:=y.1 && !(memless x.2.op || quietNew y.2.op)
noncomputable def transOne (m:Nat):List Nat→Nat→Bool
 |[],_=>true
 |x :: l,i=>(!Nat.testBit m i || Nat.beq (Nat.land x m) x) && transOne m l (i+1)
noncomputable def drawOk (k:Nat) (ops:List Oper):Bool :=
 calmAll (depBad ops) [] ops (masks ops []) && (calmAll lateBad [] (tagOps k ops) (masks ops []) && (masks ops []).all fun m=>transOne m (masks ops []) 0)
theorem transOne_ok {m:Nat}:∀ {l:List Nat} {i:Nat},transOne m l i=true→∀ j,j<l.length→Nat.testBit m (i+j)=true→∀ b,Nat.testBit (nth 0 l j) b=true→Nat.testBit m b=true
 |[],_,_,j,hj,_,_,_=>by simp at hj
 |x :: l,i,h,j,hj,ht,b,hb=>by
  simp only [transOne,Bool.and_eq_true] at h
  cases j with
  |zero =>
   have h1:=h.1
   rw [show Nat.testBit m i=true from ht] at h1
   simp only [Bool.not_true,Bool.false_or] at h1
   have h2:x &&& m=x:=Nat.eq_of_beq_eq_true h1
   have h3:Nat.testBit x b=true:=hb
   rw [← h2,Nat.testBit_and,Bool.and_eq_true] at h3
   exact h3.2
  |succ j=>exact transOne_ok h.2 j (by simpa using hj) (by rw [show i+1+j=i+(j+1) by omega];exact ht) b hb
theorem masks_len:∀ (l:List Oper) (ms:List Nat),(masks l ms).length=ms.length+l.length
 |[],ms=>by simp [masks]
 |o :: l,ms=>by
  simp only [masks]
  rw [masks_len l]
  simp only [List.length_append,List.length_cons,List.length_nil]
  omega
theorem tagOps_get:∀ {k:Nat} {ops:List Oper} {i:Nat} {o:Oper},ops[i]?=some o→(tagOps k ops)[i]?=some (decide (k≤i),o)
 |_,[],i,o,h=>by simp at h
 |0,x :: l,i,o,h=>by
  cases i with
  |zero=>simp only [List.getElem?_cons_zero,Option.some.injEq] at h;subst h;rfl
  |succ i =>
   have:=tagOps_get (k:=0) (ops:=l) (i:=i) (by simpa using h)
   simpa [tagOps] using this
 |k+1,x :: l,i,o,h=>by
  cases i with
  |zero=>simp only [List.getElem?_cons_zero,Option.some.injEq] at h;subst h;rfl
  |succ i =>
   have:=tagOps_get (k:=k) (ops:=l) (i:=i) (by simpa using h)
   simpa [tagOps] using this
section
variable {GL:List (Nat×List Value)} {A A' A0:Nat→Prop} {β β':Bx} {S S':TS} {s s0 s' s2:CS} {P:Program} {Γ:Env} {N:Nat} {h h':Nat→T}
theorem drawOk_dep {k:Nat} {ops:List Oper} (hd:drawOk k ops=true) {i j:Nat} {x y:Oper} (hij:i<j) (hx:ops[i]?=some x) (hy:ops[j]?=some y) {d:Nat} (hxd:x.dst=some d) (hdy:d∈namesOf ops y):Nat.testBit (nth 0 (masks ops []) j) i=true:=by
 unfold drawOk at hd
 simp only [Bool.and_eq_true] at hd
 rcases calmAll_spec hd.1 i j x y hij (Nat.zero_le _) (by simpa using hx) (by simpa using hy) with q|q
 ·exact q
 ·unfold depBad at q
  rw [hxd] at q
  simp only at q
  rw [mem_has hdy] at q
  simp at q
theorem drawOk_late {k:Nat} {ops:List Oper} (hd:drawOk k ops=true) {i j:Nat} {x y:Oper} (hij:i<j) (hkj:k≤j) (hx:ops[i]?=some x) (hy:ops[j]?=some y):Nat.testBit (nth 0 (masks ops []) j) i=true∨memless x.op=true∨quietNew y.op=true:=by
 unfold drawOk at hd
 simp only [Bool.and_eq_true] at hd
 rcases calmAll_spec hd.2.1 i j _ _ hij (Nat.zero_le _) (by simpa using tagOps_get hx) (by simpa using tagOps_get hy) with q|q
 ·exact .inl q
 ·unfold lateBad at q
  rw [decide_eq_true hkj] at q
  simp only [Bool.true_and,Bool.not_eq_false',Bool.or_eq_true] at q
  exact .inr q
theorem drawOk_trans {k:Nat} {ops:List Oper} (hd:drawOk k ops=true) {j i b:Nat} (hj:j<ops.length) (hi:i<ops.length) (h1:Nat.testBit (nth 0 (masks ops []) j) i=true) (h2:Nat.testBit (nth 0 (masks ops []) i) b=true):Nat.testBit (nth 0 (masks ops []) j) b=true:=by
 unfold drawOk at hd
 simp only [Bool.and_eq_true] at hd
 have hl:=masks_len ops []
 simp only [List.length_nil,Nat.zero_add] at hl
 have hm:nth 0 (masks ops []) j∈masks ops []:=by
  have key:∀ (l:List Nat) (j:Nat),j<l.length→nth 0 l j∈l:=by
   intro l
   induction l with
   |nil=>intro j hj;simp at hj
   |cons x l ih =>
    intro j hj
    cases j with
    |zero=>exact List.mem_cons_self
    |succ j=>exact List.mem_cons_of_mem _ (ih j (by simpa using hj))
  exact key _ j (by omega)
 have:=List.all_eq_true.1 hd.2.2 _ hm
 exact transOne_ok this i (by omega) (by rw [Nat.zero_add];exact h1) b h2
def SupL (A0:Nat→Prop) (L:List Lg) (D:Nat) (f:Nat):Prop:=A0 f∨∃ (m:Nat) (x:Lg),Nat.testBit D m=true∧L[m]?=some x∧x.lo≤f∧f<x.hi
theorem SupL.more {L M:List Lg} {D E:Nat} (hD:∀ m,m<L.length→Nat.testBit D m=true→Nat.testBit E m=true) {f:Nat} (k:SupL A0 L D f):SupL A0 (L++M) E f:=by
 rcases k with k|⟨m,x,h1,h2,h3⟩
 ·exact .inl k
 ·have hm:=(List.getElem?_eq_some_iff.1 h2).1
  exact .inr ⟨m,x,hD m hm h1,by rw [List.getElem?_append_left hm];exact h2,h3⟩
theorem SupL.sub {L:List Lg} {D E:Nat} (hD:∀ m,m<L.length→Nat.testBit D m=true→Nat.testBit E m=true) {f:Nat} (k:SupL A0 L D f):SupL A0 L E f:=by
 have:=SupL.more (M:=[]) hD k
 simpa using this
structure PreInv (GL:List (Nat×List Value)) (ops:List Oper) (A0:Nat→Prop) (β:Bx) (S:TS) (s0:CS) (N:Nat) (L:List Lg) (h:Nat→T) (fr:Fr) (s:CS):Prop where
 nt:fr.nt=N
 le:N≤512
 rel:TRel GL A0 β S s
 slot:∀ t,∃ D,VT (SupL A0 L D) β (objAt s.obj) (h t) (fr.get t)∧∀ (j:Nat) (o:Oper),L.length≤j→ops[j]?=some o→t∈namesOf ops o→∀ m,m<L.length→Nat.testBit D m=true→Nat.testBit (nth 0 (masks ops []) j) m=true
 log:∀ (k:Nat) (x:Lg),L[k]?=some x→s0.n≤x.lo∧x.lo≤x.hi∧x.hi≤s.n∧x.wr=[]∧∀ f,f∈x.rd→f<x.lo∧(SupL A0 L (nth 0 (masks ops []) k) f∨Own β f)
 apart:∀ (k m:Nat) (x y:Lg),k<m→L[k]?=some x→L[m]?=some y→x.hi≤y.lo
 own:∀ f,Own β f→f<s0.n
 base:∀ f,A0 f→f<s0.n
 calm:Calm0 A0 β s0 A0 s
 lim:s0.lim≤s0.n
theorem TRel.more (hT:TRel GL A β S s) (A1:Nat→Prop) (h1:∀ f,A f→A1 f) (h2:∀ f,A1 f→f<s.n) (h3:∀ f,A1 f→¬ Own β f):TRel GL A1 β S s :=
 ⟨hT.inr,hT.inv,h2,fun f hf=>⟨(hT.dis f hf).1,fun hh=>h3 f hh hf⟩,hT.inj,hT.next,fun b z N l hb=>(hT.cells b z N l hb).mono h1 (fun _ _=>rfl) (Bx.le_refl _) rfl fun _ _ _ _=>rfl,
  fun b l hb=>(hT.maps b l hb).mono h1 (fun _ _=>rfl) (Bx.le_refl _) rfl fun _ _=>rfl,fun x hx=>⟨h1 _ (hT.glob x hx).1,(hT.glob x hx).2⟩⟩
theorem TRel.inner (hT:TRel GL A β S s):TRel GL A β S s.inner:=⟨hT.inr,⟨hT.inv.none,hT.inv.vers,Nat.le_refl _⟩,hT.alt,hT.dis,hT.inj,hT.next,hT.cells,hT.maps,hT.glob⟩
theorem TRel.outer (hT:TRel GL A β S s') (hl:s.lim≤s'.n):TRel GL A β S (s.outer s'):=⟨hT.inr,⟨hT.inv.none,hT.inv.vers,hl⟩,hT.alt,hT.dis,hT.inj,hT.next,hT.cells,hT.maps,hT.glob⟩
theorem Calm0.trans (hl:s.lim≤s.n) (k1:Calm0 A β s A s') (k2:Calm0 A β s' A s2):Calm0 A β s A s2:=by
 refine ⟨k1.can.trans k2.can,fun _ h=>h,fun _ h=>.inl h,fun f hf=>?_,fun x hx=>?_,fun x hx=>k1.wr x (k2.wr x hx)⟩
 ·rw [k2.keep f (Nat.lt_of_lt_of_le hf k1.can.n)];exact k1.keep f hf
 ·rcases k2.rd x hx with q|⟨q,q2⟩
  ·exact k1.rd x q
  ·rw [k1.can.lim] at q
   exact .inr ⟨q,q2⟩
theorem PreInv.next {k0 : Nat} {ops : List Oper} (hd : drawOk k0 ops = true) {L : List Lg} {fr : Fr} {o : Oper} (I : PreInv GL ops A0 β S s0 N L h fr s) (ho : ops[L.length]? = some o) (hdst : ∀ t, o.dst = some t → t < N) {t : T} {v : Value} {s1 : CS}
    (k1:TRel GL A' β S s1) (k2:VT A' β (objAt s1.obj) t v) (k3:Calm0 (SupL A0 L (nth 0 (masks ops []) L.length)) β s.inner A' s1) :
    PreInv GL ops A0 β S s0 N (L++[⟨s1.rd,s1.wr,s.n,s1.n⟩]) (putT h o.dst t) (putC fr o.dst v) (s.outer s1):=by
  have hsn:s.n≤s1.n:=k3.can.n
  have hln:L.length<ops.length:=(List.getElem?_eq_some_iff.1 ho).1
  have h0n:s0.n≤s.n:=I.calm.can.n
  have hsup:∀ f D,SupL A0 L D f→f<s.n:=fun f D hf=>by
    rcases hf with q|⟨m,x,_,q2,_,q4⟩
    · have:=I.base f q;omega
    · have:=(I.log m x q2).2.2.1;omega
  have hA':∀ f,A' f→SupL A0 (L++[⟨s1.rd,s1.wr,s.n,s1.n⟩]) (nth 0 (masks ops []) L.length ||| 2 ^ L.length) f:=fun f hf=>by
    rcases k3.new f hf with q|q
    · refine SupL.more (fun m hm hb=>?_) q
      rw [Nat.testBit_or,hb];rfl
    · refine .inr ⟨L.length,⟨s1.rd,s1.wr,s.n,s1.n⟩,?_,by simp,q,k1.alt f hf⟩
      rw [Nat.testBit_or,Nat.testBit_two_pow_self];simp
  have hobj:∀ f,f<s.n→objAt s1.obj f=objAt s.obj f:=fun f hf=>k3.keep f hf
  have hwr:s1.wr=[]:=by
    rw [List.eq_nil_iff_forall_not_mem]
    intro x hx
    have:=k3.wr x hx
    simp [CS.inner] at this
  have hcal:Calm0 A0 β s A0 (s.outer s1):=by
    refine ⟨outer_can I.rel.inv k3.can,fun _ h=>h,fun _ h=>.inl h,hobj,fun x hx=>?_,fun x hx=>?_⟩
    · rcases insAll_mem (l:=s1.rd) rfl x hx with q|⟨q,q2⟩
      · exact .inl q
      · refine .inr ⟨q2,?_⟩
        have hxn:x<s0.n:=by have h1:=I.calm.can.lim;have h2:=I.lim;rw [h1] at q2;omega
        rcases k3.rd x q with q3|⟨_,q3⟩
        · simp [CS.inner] at q3
        · rcases q3 with (q3|⟨m,y,_,q5,q6,_⟩)|q3
          · exact .inl q3
          · have:=(I.log m y q5).1;omega
          · exact .inr q3
    · rcases insAll_mem (l:=s1.wr) rfl x hx with q|⟨q,_⟩
      · exact q
      · rw [hwr] at q;simp at q
  have hrel:TRel GL A0 β S (s.outer s1):=hcal.rel I.rel k1.inr ⟨k1.inv.none,k1.inv.vers,by have:=I.rel.inv.lim;show s.lim≤s1.n;omega⟩ fun f hf=>by have:=I.rel.alt f hf;show f<s1.n;omega
  refine ⟨?_,I.le,hrel,fun t'=>?_,fun k x hx=>?_,fun k m x y hkm hx hy=>?_,I.own,I.base,?_,I.lim⟩
  · cases hd2:o.dst with
    |none=>exact I.nt
    |some d =>
      show (fr.put d v).nt=N
      unfold Fr.put
      rw [sel_eq]
      split<;>exact I.nt
  · by_cases ht':o.dst=some t'
    · rw [ht']
      refine ⟨nth 0 (masks ops []) L.length ||| 2 ^ L.length,?_,fun j o' hj ho' hn m hm hb=>?_⟩
      · show VT _ _ _ (tupd h t' t t') ((fr.put t' v).get t')
        rw [tupd_same,Fr.get_put_same v (by rw [I.nt];exact hdst _ ht') (by rw [I.nt];exact I.le)]
        exact k2.mono hA' (fun _ _=>rfl) (Bx.le_refl _)
      · rw [List.length_append,List.length_singleton] at hj hm
        have hdep:=drawOk_dep hd (show L.length<j by omega) ho ho' ht' hn
        rw [Nat.testBit_or,Bool.or_eq_true] at hb
        rcases hb with hb|hb
        · exact drawOk_trans hd (List.getElem?_eq_some_iff.1 ho').1 hln hdep hb
        · rw [Nat.testBit_two_pow] at hb
          have:L.length=m:=by simpa using hb
          rw [← this];exact hdep
    · obtain ⟨D,d1,d2⟩:=I.slot t'
      refine ⟨D &&& (2 ^ L.length - 1),?_,fun j o' hj ho' hn m hm hb=>?_⟩
      · have e1:putT h o.dst t t'=h t':=by
          cases hd2:o.dst with
          |none=>rfl
          |some d=>exact tupd_ne _ _ _ _ fun hh=>ht' (by rw [hd2,hh])
        have e2:(putC fr o.dst v).get t'=fr.get t':=by
          cases hd2:o.dst with
          |none=>rfl
          |some d=>exact Fr.get_put_other v (by rw [I.nt];exact I.le) fun hh=>ht' (by rw [hd2,hh])
        rw [e1,e2]
        refine d1.mono (fun f hf=>SupL.more (fun m hm hb=>?_) hf) (fun f hf=>hobj f (hsup f D hf)) (Bx.le_refl _)
        rw [Nat.testBit_and,hb,Nat.testBit_two_pow_sub_one];simp [hm]
      · rw [List.length_append,List.length_singleton] at hj
        rw [Nat.testBit_and,Bool.and_eq_true,Nat.testBit_two_pow_sub_one] at hb
        exact d2 j o' (by omega) ho' hn m (of_decide_eq_true hb.2) hb.1
  · by_cases hk:k<L.length
    · rw [List.getElem?_append_left hk] at hx
      obtain ⟨l1,l2,l3,l4,l5⟩:=I.log k x hx
      exact ⟨l1,l2,by show x.hi≤s1.n;omega,l4,fun f hf=>⟨(l5 f hf).1,(l5 f hf).2.imp (fun q=>SupL.more (fun _ _ hb=>hb) q) id⟩⟩
    · have hk2:k=L.length:=by
        have:=(List.getElem?_eq_some_iff.1 hx).1
        rw [List.length_append,List.length_singleton] at this
        omega
      subst hk2
      simp only [List.getElem?_append_right (Nat.le_refl _),Nat.sub_self,List.getElem?_cons_zero,Option.some.injEq] at hx
      subst hx
      refine ⟨h0n,hsn,Nat.le_refl _,hwr,fun f hf=>?_⟩
      rcases k3.rd f hf with q|⟨q,q2⟩
      · simp [CS.inner] at q
      · exact ⟨q,q2.imp (fun q3=>SupL.more (fun _ _ hb=>hb) q3) id⟩
  · by_cases hm:m<L.length
    · rw [List.getElem?_append_left (by omega)] at hx
      rw [List.getElem?_append_left hm] at hy
      exact I.apart k m x y hkm hx hy
    · have hm2:m=L.length:=by
        have:=(List.getElem?_eq_some_iff.1 hy).1
        rw [List.length_append,List.length_singleton] at this
        omega
      subst hm2
      rw [List.getElem?_append_left hkm] at hx
      simp only [List.getElem?_append_right (Nat.le_refl _),Nat.sub_self,List.getElem?_cons_zero,Option.some.injEq] at hy
      subst hy
      exact (I.log k x hx).2.2.1
  · exact I.calm.trans I.lim hcal
theorem names_operand {ops:List Oper} {o:Oper} {x:Nat} (hx:Operand.tmp x∈o.op.operands.toList):x∈namesOf ops o:=by
 unfold namesOf
 refine List.mem_append.2 (.inl ?_)
 rw [List.mem_filterMap]
 exact ⟨.tmp x,hx,rfl⟩
theorem names_guard {ops:List Oper} {o:Oper} {j d:Nat} {w:Bool} (hg:o.guard=some (j,w)) (hd:dstOf ops j=some d):d∈namesOf ops o:=by
 unfold namesOf
 refine List.mem_append.2 (.inr ?_)
 rw [hg]
 simp only [hd]
 exact List.mem_singleton.2 rfl
theorem pre_ok (hE : EnvOk P Γ) {k0 : Nat} {ops : List Oper} (hd : drawOk k0 ops = true) : ∀ {l : List Oper} {L : List Lg} {h h' : Nat → T} {fr : Fr} {s : CS} {outs : List T} {ob : Prop}, PreInv GL ops A0 β S s0 N L h fr s → (∀ (j : Nat) (o : Oper), l[j]? = some o → ops[L.length + j]? = some o) → dstOk N l = true → runP P Γ GL ops l h S outs = some (ob, h') → ob →
    ∃ M fr' s',drawC P Γ (callR P Γ) ops l fr s=some (M,fr',s')∧PreInv GL ops A0 β S s0 N (L++M) h' fr' s'∧M.length=l.length
  |[],L,h,h',fr,s,outs,ob,I,hl,hdo,hr,hob=>by
    simp only [runP,Option.some.injEq,Prod.mk.injEq] at hr
    obtain ⟨rfl,rfl⟩:=hr
    exact ⟨[],fr,s,rfl,by rw [List.append_nil];exact I,rfl⟩
  |o :: l,L,h,h',fr,s,outs,ob,I,hl,hdo,hr,hob=>by
    have hd':dstOk N l=true∧∀ t,o.dst=some t→t<N:=by
      unfold dstOk at hdo ⊢
      rw [List.all_cons,Bool.and_eq_true] at hdo
      refine ⟨hdo.2,fun t ht=>?_⟩
      have:=hdo.1
      rw [ht] at this
      exact blt_iff.1 this
    have ho:ops[L.length]?=some o:=by have:=hl 0 o rfl;simpa using this
    -- what the operation may lean on
    have hrel:TRel GL (SupL A0 L (nth 0 (masks ops []) L.length)) β S s.inner:=by
      refine TRel.inner (I.rel.more _ (fun f hf=>.inl hf) (fun f hf=>?_) (fun f hf ho=>?_))
      · rcases hf with q|⟨m,x,_,q2,_,q4⟩
        · exact I.rel.alt f q
        · have:=(I.log m x q2).2.2.1;omega
      · rcases hf with q|⟨m,x,_,q2,q3,q4⟩
        · exact (I.rel.dis f ho).2 q
        · have:=(I.log m x q2).1
          have:=I.own f ho
          omega
    -- the slots that it names
    let ho':Nat→T:=fun t=>if t∈namesOf ops o then h t else .junk
    have hin:∀ t,t∈namesOf ops o→ho' t=h t:=fun t ht=>if_pos ht
    have hF:FrOk (SupL A0 L (nth 0 (masks ops []) L.length)) β (objAt s.inner.obj) N ho' fr:=⟨I.nt,I.le,fun t=>by
      by_cases ht:t∈namesOf ops o
      · rw [hin t ht]
        obtain ⟨D,d1,d2⟩:=I.slot t
        exact d1.mono (fun f hf=>SupL.sub (fun m hm hb=>d2 L.length o (Nat.le_refl _) ho ht m hm hb) hf) (fun _ _=>rfl) (Bx.le_refl _)
      · rw [show ho' t=.junk from if_neg ht]
        exact .junk _⟩
    have hev:∀ x,x∈o.op.operands.toList→evalT GL ho' x=evalT GL h x:=fun x hx=>by
      cases x with
      |tmp t=>exact hin t (names_operand hx)
      |_=>rfl
    have hgd:guardT ops ho' o.guard=guardT ops h o.guard:=by
      cases hg:o.guard with
      |none=>rfl
      |some p =>
        obtain ⟨j,w⟩:=p
        unfold guardT
        simp only
        cases hdd:dstOf ops j with
        |none=>rfl
        |some d=>simp only [hin d (names_guard hg hdd)]
    -- the rest behind a step that is done
    have go:∀ {t:T} {v:Value} {s1:CS} {A':Nat→Prop} {outs':List T} {ob':Prop},TRel GL A' β S s1→VT A' β (objAt s1.obj) t v→Calm0 (SupL A0 L (nth 0 (masks ops []) L.length)) β s.inner A' s1→stepC P Γ (callR P Γ) ops o fr s.inner=some (putC fr o.dst v,s1)→runP P Γ GL ops l (putT h o.dst t) S outs'=some (ob',h')→ob'→∃ M fr' s',drawC P Γ (callR P Γ) ops (o :: l) fr s=some (M,fr',s')∧PreInv GL ops A0 β S s0 N (L++M) h' fr' s'∧M.length=(o :: l).length:=by
      intro t v s1 A' outs' ob' k1 k2 k3 hst hrun hob'
      have I2:=I.next hd ho hd'.2 k1 k2 k3
      obtain ⟨M,fr',s',m1,m2,m3⟩:=pre_ok hE hd I2 (fun j o' hj=>by
        have:=hl (j+1) o' (by simpa using hj)
        rw [List.length_append,List.length_singleton]
        rw [show L.length+1+j=L.length+(j+1) by omega]
        exact this) hd'.1 hrun hob'
      refine ⟨⟨s1.rd,s1.wr,s.n,s1.n⟩ :: M,fr',s',?_,?_,by simp [m3]⟩
      · rw [drawC,hst]
        simp only
        rw [m1]
      · rw [List.append_assoc] at m2
        exact m2
    unfold runP at hr
    split at hr
    · simp at hr
    · rename_i hg
      rw [← hgd] at hg
      have hw:=guardT_ok hF hg
      refine go hrel VT.undf ⟨Can.refl _,fun _ h=>h,fun _ h=>.inl h,fun _ _=>rfl,fun _ h=>.inl h,fun _ h=>h⟩ ?_ hr hob
      unfold stepC
      rw [hw,cond_false]
    · rename_i hg
      rw [← hgd] at hg
      have hw:=guardT_ok hF hg
      split at hr
      · rename_i f args tys hop
        split at hr
        · rename_i r outs'
          split at hr
          · rename_i p hp
            unfold callP at hp
            split at hp
            · rename_i k first cap hf
              simp only [Option.some.injEq] at hp
              subst hp
              cases hrun:runP P Γ GL ops l (putT h o.dst r) S outs' with
              |none=>rw [hrun] at hr;simp [andP] at hr
              |some q =>
                obtain ⟨q1,q2⟩:=q
                rw [hrun] at hr
                simp only [andP,Option.some.injEq,Prod.mk.injEq] at hr
                obtain ⟨rfl,rfl⟩:=hr
                have hfv:=hF.eval hrel f
                rw [hev f (by rw [hop];simp [Op.operands,Call.operands]),hf] at hfv
                generalize e1:evalC fr f=vf at hfv
                cases hfv with
                |fn h1 h2 =>
                  rename_i va vc
                  have hargs:=VL_map (hF.eval hrel) args.toList
                  have hargs':args.toList.map (evalT GL ho')=args.toList.map (evalT GL h):=map_congr fun x hx=>hev x (by rw [hop];simp [Op.operands,Call.operands];right;simpa using hx)
                  rw [hargs'] at hargs
                  obtain ⟨v,s1,A',c1,c2,c3,c4⟩:=hob.1 _ β s.inner _ hrel ((h1.append hargs).append h2)
                  refine go c2 c3 c4 ?_ hrun hob.2
                  unfold stepC
                  rw [hw,cond_true]
                  have:cop P Γ (callR P Γ) (evalC fr) o s.inner=some (v,s1):=by
                    unfold cop
                    simp only [hop,e1]
                    unfold opCall
                    exact c1
                  rw [this]
            · simp at hp
          · simp at hr
        · simp at hr
      · split at hr
        · rename_i t hst
          have hst':stepP P Γ (evalT GL ho') o S=some t:=by rw [stepP_congr hev];exact hst
          obtain ⟨v,s1,A',c1,c2,c3,c4⟩:=stepP_ok (call:=callR P Γ) hE hrel (hF.eval hrel) hst'
          refine go c2 c3 c4 ?_ hr hob
          unfold stepC
          rw [hw,cond_true,c1]
        · simp at hr
theorem Stp.outer (hI:CInv s) (k:Stp A β s.inner A' β' s'):Stp A β s A' β' (s.outer s'):=by
 refine ⟨outer_can hI k.can,k.sub,k.new,k.own,k.keep,k.bx,fun x hx=>?_,fun x hx=>?_⟩
 ·rcases insAll_mem (l:=s'.rd) rfl x hx with q|⟨q,q2⟩
  ·exact .inl q
  ·rcases k.rd x q with q3|⟨_,q3⟩
   ·simp [CS.inner] at q3
   ·exact .inr ⟨q2,q3⟩
 ·rcases insAll_mem (l:=s'.wr) rfl x hx with q|⟨q,q2⟩
  ·exact .inl q
  ·rcases k.wr x q with q3|⟨_,q3⟩
   ·simp [CS.inner] at q3
   ·exact .inr ⟨q2,q3⟩
theorem post_ok (hE : EnvOk P Γ) {own : List Nat} {ops : List Oper} {N : Nat} : ∀ {l : List Oper} {h h' : Nat → T} {S S' : TS} {outs : List (T × TS)} {ob : Prop} {A : Nat → Prop} {β : Bx} {fr : Fr} {s : CS}, dstOk N l = true → FrOk A β (objAt s.obj) N h fr → TRel GL A β S s → runT P Γ GL own ops l h S outs = some (ob, h', S') → ob →
    ∃ M fr' s',drawC P Γ (callR P Γ) ops l fr s=some (M,fr',s')∧Left GL A β s N fr' s' h' S'
  |[],h,h',S,S',outs,ob,A,β,fr,s,hd,hF,hT,hr,hob=>by
    simp only [runT,Option.some.injEq,Prod.mk.injEq] at hr
    obtain ⟨rfl,rfl,rfl⟩:=hr
    exact ⟨[],fr,s,rfl,A,β,hF,hT,Stp.refl⟩
  |o :: l,h,h',S,S',outs,ob,A,β,fr,s,hd,hF,hT,hr,hob=>by
    have hd':dstOk N l=true∧∀ t,o.dst=some t→t<N:=by
      unfold dstOk at hd ⊢
      rw [List.all_cons,Bool.and_eq_true] at hd
      refine ⟨hd.2,fun t ht=>?_⟩
      have:=hd.1
      rw [ht] at this
      exact blt_iff.1 this
    have hTi:=hT.inner
    have go:∀ {t:T} {S1:TS} {r:Option (Value×CS)} {l':List (T×TS)} {ob':Prop},Ok GL A β s.inner r t S1→(cop P Γ (callR P Γ) (evalC fr) o s.inner=r)→wantedC ops fr o=true→runT P Γ GL own ops l (putT h o.dst t) S1 l'=some (ob',h',S')→ob'→∃ M fr' s',drawC P Γ (callR P Γ) ops (o :: l) fr s=some (M,fr',s')∧Left GL A β s N fr' s' h' S':=by
      rintro t S1 r l' ob' ⟨v,s1,A1,β1,rfl,k1,k2,k3⟩ hc hw hrun hob'
      have hF1:FrOk A1 β1 (objAt s1.obj) N h fr:=hF.mono k3.sub (Stp.old (s:=s.inner) hTi k3) k3.bx
      have hS:Stp A β s A1 β1 (s.outer s1):=k3.outer hT.inv
      obtain ⟨M,fr',s',e1,e2⟩:=post_ok hE hd'.1 (s:=s.outer s1) (hF1.put hd'.2 k2) (k1.outer (Nat.le_trans hT.le k3.can.n)) hrun hob'
      refine ⟨⟨s1.rd,s1.wr,s.n,s1.n⟩ :: M,fr',s',?_,Left.trans (h':=h) (fr':=fr) hT.le hS e2⟩
      rw [drawC]
      have:stepC P Γ (callR P Γ) ops o fr s.inner=some (putC fr o.dst v,s1):=by
        unfold stepC
        rw [hw,cond_true,hc]
      rw [this]
      simp only
      rw [e1]
    unfold runT at hr
    split at hr
    · simp at hr
    · rename_i hg
      have hw:=guardT_ok hF hg
      have hS:Stp A β s A β (s.outer s.inner):=Stp.outer hT.inv Stp.refl
      obtain ⟨M,fr',s',e1,e2⟩:=post_ok hE hd'.1 (s:=s.outer s.inner) (hF.put hd'.2 VT.undf) (hTi.outer hT.le) hr hob
      refine ⟨⟨[],[],s.n,s.n⟩ :: M,fr',s',?_,Left.trans (h':=h) (fr':=fr) hT.le hS e2⟩
      rw [drawC]
      have:stepC P Γ (callR P Γ) ops o fr s.inner=some (putC fr o.dst undef,s.inner):=by
        unfold stepC
        rw [hw,cond_false]
      rw [this]
      simp only
      rw [e1]
      rfl
    · rename_i hg
      have hw:=guardT_ok hF hg
      split at hr
      · rename_i f args tys ho
        split at hr
        · rename_i r outs'
          split at hr
          · rename_i p hp
            unfold callT at hp
            split at hp
            · rename_i k first cap hf
              simp only [Option.some.injEq] at hp
              subst hp
              cases hrun:runT P Γ GL own ops l (putT h o.dst r.1) r.2 outs' with
              |none=>rw [hrun] at hr;simp [andT] at hr
              |some q =>
                obtain ⟨q1,q2,q3⟩:=q
                rw [hrun] at hr
                simp only [andT,Option.some.injEq,Prod.mk.injEq] at hr
                obtain ⟨rfl,rfl,rfl⟩:=hr
                have hfv:=hF.eval hT f
                rw [hf] at hfv
                generalize e1:evalC fr f=vf at hfv
                cases hfv with
                |fn h1 h2 =>
                  rename_i va vc
                  have hargs:=VL_map (hF.eval hT) args.toList
                  have hcall:=hob.1 A β s.inner _ hTi ((h1.append hargs).append h2)
                  refine go hcall ?_ hw hrun hob.2
                  unfold cop
                  simp only [ho,e1]
                  unfold opCall
                  rfl
            · simp at hp
          · simp at hr
        · simp at hr
      · split at hr
        · rename_i t S1 hst
          exact go (stepT_ok hE hTi (hF.eval hT) hst) rfl hw hr hob
        · simp at hr
theorem clash_left {x y:Lg} (h1:x.rd=[]) (h2:x.wr=[]) (h3:x.lo=x.hi):clash x y=false:=by
 obtain ⟨rx,wx,lo,hi⟩:=x
 obtain ⟨ry,wy,lo',hi'⟩:=y
 simp only at h1 h2 h3
 subst h1;subst h2;subst h3
 exact clash_gen (fun f hf=>by simp at hf) (fun f hf=>by simp at hf) (fun f _=>by omega) (fun f _=>by omega)
theorem clash_right {x y:Lg} (h1:y.rd=[]) (h2:y.wr=[]):clash x y=false:=by
 obtain ⟨rx,wx,lo,hi⟩:=x
 obtain ⟨ry,wy,lo',hi'⟩:=y
 simp only at h1 h2
 subst h1;subst h2
 exact clash_gen (fun f _=>by simp) (fun f _=>by simp) (fun f hf=>by simp at hf) (fun f hf=>by simp at hf)
theorem TW.draw (hE : EnvOk P Γ) {id : Nat} {ops : Array Oper} {Q : Exit → (Nat → T) → TS → Prop} (k : Nat) (outsP : List T) (own : List Nat) (outs : List (T × TS)) {h1 : Nat → T} {ob1 ob2 : Prop} (hd : dstOk N ops.toList = true) (hok : drawOk k ops.toList = true)
    (hp:runP P Γ GL ops.toList (ops.toList.take k) h S outsP=some (ob1,h1)) (hob1:ob1) (hr:runT P Γ GL own ops.toList (ops.toList.drop k) h1 S outs=some (ob2,h',S')) (hob2:ob2) (hq:Q .normal h' S'):TW P Γ GL N (.region id ops true) h S Q:=fun A β fr s hF hT=>by
  have hsplit:ops.toList=ops.toList.take k++ops.toList.drop k:=(List.take_append_drop k _).symm
  have hdd:dstOk N (ops.toList.take k)=true∧dstOk N (ops.toList.drop k)=true:=by
    unfold dstOk at hd ⊢
    rw [hsplit,List.all_append,Bool.and_eq_true] at hd
    exact hd
  have I0:PreInv GL ops.toList A β S s N [] h fr s:=by
    refine ⟨hF.nt,hF.le,hT,fun t=>⟨0,(hF.slot t).mono (fun f hf=>.inl hf) (fun _ _=>rfl) (Bx.le_refl _),fun j o _ _ _ m hm=>by simp at hm⟩,fun k x hx=>by simp at hx,fun k m x y _ hx=>by simp at hx,fun f hf=>(hT.dis f hf).1,hT.alt,?_,hT.le⟩
    exact ⟨Can.refl _,fun _ h=>h,fun _ h=>.inl h,fun _ _=>rfl,fun _ h=>.inl h,fun _ h=>h⟩
  obtain ⟨M1,fr1,s1,d1,I1,m1⟩:=pre_ok hE hok I0 (fun j o hj=>by
    rw [List.length_nil,Nat.zero_add]
    rw [List.getElem?_take] at hj
    split at hj
    · exact hj
    · simp at hj) hdd.1 hp hob1
  rw [List.nil_append] at I1
  -- behind the first part all may lean on all
  let D:Nat:=2 ^ M1.length - 1
  have hDall:∀ m,m<M1.length→Nat.testBit D m=true:=fun m hm=>by
    show Nat.testBit (2 ^ M1.length - 1) m=true
    rw [Nat.testBit_two_pow_sub_one];exact decide_eq_true hm
  have hT1:TRel GL (SupL A M1 D) β S s1:=by
    refine I1.rel.more _ (fun f hf=>.inl hf) (fun f hf=>?_) (fun f hf ho=>?_)
    · rcases hf with q|⟨m,x,_,q2,_,q4⟩
      · exact I1.rel.alt f q
      · have:=(I1.log m x q2).2.2.1;omega
    · rcases hf with q|⟨m,x,_,q2,q3,q4⟩
      · exact (I1.rel.dis f ho).2 q
      · have:=(I1.log m x q2).1
        have:=I1.own f ho
        omega
  have hF1:FrOk (SupL A M1 D) β (objAt s1.obj) N h1 fr1:=⟨I1.nt,I1.le,fun t=>by
    obtain ⟨E,e1,_⟩:=I1.slot t
    exact e1.mono (fun f hf=>SupL.sub (fun m hm _=>hDall m hm) hf) (fun _ _=>rfl) (Bx.le_refl _)⟩
  have hS1:Stp A β s (SupL A M1 D) β s1:=by
    refine ⟨I1.calm.can,fun f hf=>.inl hf,fun f hf=>?_,fun f hf=>.inl hf,fun f hf _=>I1.calm.keep f hf,Bx.le_refl _,I1.calm.rd,fun x hx=>.inl (I1.calm.wr x hx)⟩
    rcases hf with q|⟨m,x,_,q2,q3,_⟩
    · exact .inl q
    · have:=(I1.log m x q2).1
      exact .inr (.inl (by omega))
  obtain ⟨M2,fr2,s2,d2,L2⟩:=post_ok hE hdd.2 hF1 hT1 hr hob2
  have hdraw:=drawC_append d1 d2
  rw [← hsplit] at hdraw
  obtain ⟨f1,f2⟩:=draw_fit hdraw
  refine W.draw hdraw ?_ ⟨h',S',Left.trans (h':=h) (fr':=fr) hT.le hS1 L2,hq⟩
  refine calm_ms rfl (calmAll_of fun i j x y hij _ hx hy=>?_)
  simp only [List.nil_append] at hx hy
  have hjl:j<ops.toList.length:=by rw [← f1];exact (List.getElem?_eq_some_iff.1 hy).1
  have ho1:ops.toList[i]?=some (ops.toList[i]'(by omega)):=List.getElem?_eq_getElem _
  have ho2:ops.toList[j]?=some (ops.toList[j]'hjl):=List.getElem?_eq_getElem _
  by_cases hkj:k≤j
  · rcases drawOk_late hok hij hkj ho1 ho2 with q|q|q
    · exact .inl q
    · obtain ⟨a,b,c⟩:=(f2 i _ x ho1 hx).1 q
      exact .inr (clash_left a b c)
    · obtain ⟨a,b⟩:=(f2 j _ y ho2 hy).2 q
      exact .inr (clash_right a b)
  · have hjM:j<M1.length:=by rw [m1,List.length_take];omega
    rw [List.getElem?_append_left (by omega)] at hx
    rw [List.getElem?_append_left hjM] at hy
    by_cases hbit:Nat.testBit (nth 0 (masks ops.toList []) j) i=true
    · exact .inl hbit
    · right
      obtain ⟨x1,x2,x3,x4,x5⟩:=I1.log i x hx
      obtain ⟨y1,y2,y3,y4,y5⟩:=I1.log j y hy
      obtain ⟨rx,wx,lo,hi⟩:=x
      obtain ⟨ry,wy,lo',hi'⟩:=y
      simp only at x1 x2 x3 x4 x5 y1 y2 y3 y4 y5
      subst x4;subst y4
      refine clash_gen (fun f hf=>by simp at hf) (fun f _=>by simp) (fun f hf=>?_) (fun f hf=>by simp at hf)
      obtain ⟨g1,g2⟩:=y5 f hf
      rcases g2 with (g2|⟨m,z,g3,g4,g5,g6⟩)|g2
      · have:=I1.base f g2;omega
      · by_cases hmi:m=i
        · subst hmi;exact absurd g3 hbit
        · by_cases hlt:m<i
          · have:=I1.apart m i z _ hlt g4 hx;simp only at this;omega
          · have:=I1.apart i m _ z (by omega) hx g4;simp only at this;omega
      · have:=I1.own f g2;omega
end
end Go.Proofs.YtcgdomhednbdpaaDoor
namespace Go.Proofs.YtcgdomhednbdpaaDoor
open Go Go.RowKit
section
variable {GL:List (Nat×List Value)} {P:Program} {Γ:Env} {own:List Nat} {ops l:List Oper} {h:Nat→T} {S:TS} {outs:List (T×TS)} {outsP:List T} {d:Option Tmp} {ty:TypeId} {pos:String} {e:Array Edge} {g:Option (Nat×Bool)}
noncomputable def thenT {α:Type} (r:Option (T×TS)) (k:T→TS→Option α):Option α:=match r with
 |some (t,S)=>k t S
 |none=>none
noncomputable def gateT {α:Type} (b:Option Bool) (off on:Unit→Option α):Option α:=match b with
 |some true=>on ()
 |some false=>off ()
 |none=>none
theorem then_some {α:Type} (t:T) (S:TS) (k:T→TS→Option α):thenT (some (t,S)) k=k t S:=Eq.trans rfl rfl
theorem gate_on {α:Type} (a b:Unit→Option α):gateT (some true) a b=b ():=Eq.trans rfl rfl
theorem gate_off {α:Type} (a b:Unit→Option α):gateT (some false) a b=a ():=Eq.trans rfl rfl
noncomputable def slotT (ops:List Oper) (h:Nat→T) (j:Nat):T:=match dstOf ops j with|some t=>h t|none=>.junk
noncomputable def wantT (t:T) (w:Bool):Option Bool:=match t with|.bool b=>some (b == w)|.tup _=>some false|_=>none
theorem want_no {l:List T} {w:Bool}:wantT (.tup l) w=some false:=Eq.trans rfl rfl
theorem guard_some {j:Nat} {w:Bool}:guardT ops h (some (j,w))=wantT (slotT ops h j) w:=by
 unfold guardT slotT
 simp only
 cases dstOf ops j with
 |none=>rfl
 |some t=>simp only;cases h t<;>rfl
theorem want_tt:wantT (.bool true) true=some true:=Eq.trans rfl rfl
theorem want_tf:wantT (.bool true) false=some false:=Eq.trans rfl rfl
theorem want_ft:wantT (.bool false) true=some false:=Eq.trans rfl rfl
theorem want_ff:wantT (.bool false) false=some true:=Eq.trans rfl rfl
theorem slotT_zero {t:Tmp} {op:Op}:slotT (⟨some t,op,ty,pos,e,g⟩ :: l) h 0=h t:=Eq.trans rfl rfl
theorem slotT_succ {o:Oper} {n:Nat}:slotT (o :: l) h (n+1)=slotT l h n:=by
 unfold slotT dstOf
 rw [List.getElem?_cons_succ]
theorem runT_nil:runT P Γ GL own ops [] h S outs=some (True,h,S):=Eq.trans rfl rfl
theorem runP_nil:runP P Γ GL ops [] h S outsP=some (True,h):=Eq.trans rfl rfl
def isCall:Op→Bool
 |.call ⟨.value _,_,_⟩=>true
 |_=>false
noncomputable def nextT (P:Program) (Γ:Env) (GL:List (Nat×List Value)) (own:List Nat) (ops l:List Oper) (outs:List (T×TS)) (h:Nat→T) (d:Option Tmp) (t:T) (S:TS):Option (Prop×(Nat→T)×TS):=runT P Γ GL own ops l (putT h d t) S outs
theorem next_eq {t:T}:nextT P Γ GL own ops l outs h d t S=runT P Γ GL own ops l (putT h d t) S outs:=Eq.trans rfl rfl
noncomputable def offT (P:Program) (Γ:Env) (GL:List (Nat×List Value)) (own:List Nat) (ops l:List Oper) (outs:List (T×TS)) (h:Nat→T) (d:Option Tmp) (S:TS) (_:Unit):Option (Prop×(Nat→T)×TS):=runT P Γ GL own ops l (putT h d (.tup [])) S outs
theorem off_eq {u:Unit}:offT P Γ GL own ops l outs h d S u=runT P Γ GL own ops l (putT h d (.tup [])) S outs:=Eq.trans rfl rfl
noncomputable def onceT (P:Program) (Γ:Env) (GL:List (Nat×List Value)) (own:List Nat) (ops l:List Oper) (outs:List (T×TS)) (h:Nat→T) (S:TS) (o:Oper) (_:Unit):Option (Prop×(Nat→T)×TS):=thenT (stepT P Γ own (evalT GL h) o S) (nextT P Γ GL own ops l outs h o.dst)
theorem once_eq {u:Unit} {op:Op}:onceT P Γ GL own ops l outs h S ⟨d,op,ty,pos,e,g⟩ u=thenT (stepT P Γ own (evalT GL h) ⟨d,op,ty,pos,e,g⟩ S) (nextT P Γ GL own ops l outs h d):=Eq.trans rfl rfl
theorem runT_any {op:Op} (hc:isCall op=false):runT P Γ GL own ops (⟨d,op,ty,pos,e,g⟩ :: l) h S outs=gateT (guardT ops h g) (offT P Γ GL own ops l outs h d S) (onceT P Γ GL own ops l outs h S ⟨d,op,ty,pos,e,g⟩):=by
 rw [runT]
 simp only
 cases hg:guardT ops h g with
 |none=>rfl
 |some b =>
  cases b with
  |false=>rfl
  |true =>
   simp only [gateT,onceT]
   cases hs:stepT P Γ own (evalT GL h) ⟨d,op,ty,pos,e,g⟩ S with
   |none =>
    cases op with
    |call c =>
     obtain ⟨cal,args,tys⟩:=c
     cases cal with
     |value f=>simp [isCall] at hc
     |_=>rfl
    |_=>rfl
   |some r =>
    cases op with
    |call c =>
     obtain ⟨cal,args,tys⟩:=c
     cases cal with
     |value f=>simp [isCall] at hc
     |_=>rfl
    |_=>rfl
theorem runT_op {op:Op} (hc:isCall op=false):runT P Γ GL own ops (⟨d,op,ty,pos,e,none⟩ :: l) h S outs=thenT (stepT P Γ own (evalT GL h) ⟨d,op,ty,pos,e,none⟩ S) (nextT P Γ GL own ops l outs h d):=by
 rw [runT_any hc]
 rfl
theorem runT_if {op:Op} {j:Nat} {w:Bool} (hc:isCall op=false):runT P Γ GL own ops (⟨d,op,ty,pos,e,some (j,w)⟩ :: l) h S outs=gateT (wantT (slotT ops h j) w) (offT P Γ GL own ops l outs h d S) (onceT P Γ GL own ops l outs h S ⟨d,op,ty,pos,e,some (j,w)⟩):=by
 rw [runT_any hc,guard_some]
noncomputable def joinT (p:Option Prop) (k:Option (Prop×(Nat→T)×TS)):Option (Prop×(Nat→T)×TS):=match p,k with
 |some p,some (q,h,S)=>some (p∧q,h,S)
 |_,_=>none
theorem join_some {p q:Prop}:joinT (some p) (some (q,h,S))=some (p∧q,h,S):=Eq.trans rfl rfl
noncomputable def callK (P:Program) (Γ:Env) (GL:List (Nat×List Value)) (own:List Nat) (ops l:List Oper) (outs:List (T×TS)) (h:Nat→T) (S:TS) (d:Option Tmp) (f:Operand) (args:List Operand) (r:T×TS) (_:Unit):Option (Prop×(Nat→T)×TS):=joinT (callT P Γ GL S (args.map (evalT GL h)) (evalT GL h f) r) (runT P Γ GL own ops l (putT h d r.1) r.2 outs)
theorem callK_eq {u:Unit} {f:Operand} {args:List Operand} {r:T×TS}:callK P Γ GL own ops l outs h S d f args r u=joinT (callT P Γ GL S (args.map (evalT GL h)) (evalT GL h f) r) (runT P Γ GL own ops l (putT h d r.1) r.2 outs):=Eq.trans rfl rfl
theorem runT_callG {f:Operand} {args:Array Operand} {tys:Array TypeId} {r:T×TS}:runT P Γ GL own ops (⟨d,.call ⟨.value f,args,tys⟩,ty,pos,e,g⟩ :: l) h S (r :: outs)=gateT (guardT ops h g) (offT P Γ GL own ops l (r :: outs) h d S) (callK P Γ GL own ops l outs h S d f args.toList r):=by
 rw [runT]
 simp only
 cases hg:guardT ops h g with
 |none=>rfl
 |some b =>
  cases b with
  |false=>rfl
  |true =>
   simp only [gateT,callK]
   cases callT P Γ GL S (args.toList.map (evalT GL h)) (evalT GL h f) r with
   |none=>rfl
   |some p=>cases runT P Γ GL own ops l (putT h d r.1) r.2 outs<;>rfl
theorem runT_call {f:Operand} {args:Array Operand} {tys:Array TypeId} {r:T×TS}:runT P Γ GL own ops (⟨d,.call ⟨.value f,args,tys⟩,ty,pos,e,none⟩ :: l) h S (r :: outs)=joinT (callT P Γ GL S (args.toList.map (evalT GL h)) (evalT GL h f) r) (runT P Γ GL own ops l (putT h d r.1) r.2 outs):=by
 rw [runT_callG];rfl
theorem runT_callif {f:Operand} {args:Array Operand} {tys:Array TypeId} {r:T×TS} {j:Nat} {w:Bool}:runT P Γ GL own ops (⟨d,.call ⟨.value f,args,tys⟩,ty,pos,e,some (j,w)⟩ :: l) h S (r :: outs)=gateT (wantT (slotT ops h j) w) (offT P Γ GL own ops l (r :: outs) h d S) (callK P Γ GL own ops l outs h S d f args.toList r):=by
 rw [runT_callG,guard_some]
theorem runT_callno {f:Operand} {args:Array Operand} {tys:Array TypeId} {j:Nat} {w:Bool}:runT P Γ GL own ops (⟨d,.call ⟨.value f,args,tys⟩,ty,pos,e,some (j,w)⟩ :: l) h S []=gateT (wantT (slotT ops h j) w) (offT P Γ GL own ops l [] h d S) (fun _=>none):=by
 rw [runT]
 simp only [guard_some]
 cases wantT (slotT ops h j) w with
 |none=>rfl
 |some b=>cases b<;>rfl
theorem callT_fn {k:Nat} {first cap args:List T} {r:T×TS}:callT P Γ GL S args (.fn k first cap) r=some (Call P Γ GL k (first++args++cap) S r.1 r.2):=Eq.trans rfl rfl
noncomputable def thenP {α:Type} (r:Option T) (k:T→Option α):Option α:=match r with
 |some t=>k t
 |none=>none
theorem thenP_some {α:Type} (t:T) (k:T→Option α):thenP (some t) k=k t:=Eq.trans rfl rfl
noncomputable def nextP (P:Program) (Γ:Env) (GL:List (Nat×List Value)) (ops l:List Oper) (outs:List T) (h:Nat→T) (d:Option Tmp) (S:TS) (t:T):Option (Prop×(Nat→T)):=runP P Γ GL ops l (putT h d t) S outs
theorem nextP_eq {t:T}:nextP P Γ GL ops l outsP h d S t=runP P Γ GL ops l (putT h d t) S outsP:=Eq.trans rfl rfl
noncomputable def offP (P:Program) (Γ:Env) (GL:List (Nat×List Value)) (ops l:List Oper) (outs:List T) (h:Nat→T) (d:Option Tmp) (S:TS) (_:Unit):Option (Prop×(Nat→T)):=runP P Γ GL ops l (putT h d (.tup [])) S outs
theorem offP_eq {u:Unit}:offP P Γ GL ops l outsP h d S u=runP P Γ GL ops l (putT h d (.tup [])) S outsP:=Eq.trans rfl rfl
noncomputable def onceP (P:Program) (Γ:Env) (GL:List (Nat×List Value)) (ops l:List Oper) (outs:List T) (h:Nat→T) (S:TS) (o:Oper) (_:Unit):Option (Prop×(Nat→T)):=thenP (stepP P Γ (evalT GL h) o S) (nextP P Γ GL ops l outs h o.dst S)
theorem onceP_eq {u:Unit} {op:Op}:onceP P Γ GL ops l outsP h S ⟨d,op,ty,pos,e,g⟩ u=thenP (stepP P Γ (evalT GL h) ⟨d,op,ty,pos,e,g⟩ S) (nextP P Γ GL ops l outsP h d S):=Eq.trans rfl rfl
theorem runP_any {op:Op} (hc:isCall op=false):runP P Γ GL ops (⟨d,op,ty,pos,e,g⟩ :: l) h S outsP=gateT (guardT ops h g) (offP P Γ GL ops l outsP h d S) (onceP P Γ GL ops l outsP h S ⟨d,op,ty,pos,e,g⟩):=by
 rw [runP]
 simp only
 cases hg:guardT ops h g with
 |none=>rfl
 |some b =>
  cases b with
  |false=>rfl
  |true =>
   simp only [gateT,onceP]
   cases hs:stepP P Γ (evalT GL h) ⟨d,op,ty,pos,e,g⟩ S with
   |none =>
    cases op with
    |call c =>
     obtain ⟨cal,args,tys⟩:=c
     cases cal with
     |value f=>simp [isCall] at hc
     |_=>rfl
    |_=>rfl
   |some r =>
    cases op with
    |call c =>
     obtain ⟨cal,args,tys⟩:=c
     cases cal with
     |value f=>simp [isCall] at hc
     |_=>rfl
    |_=>rfl
theorem runP_op {op:Op} (hc:isCall op=false):runP P Γ GL ops (⟨d,op,ty,pos,e,none⟩ :: l) h S outsP=thenP (stepP P Γ (evalT GL h) ⟨d,op,ty,pos,e,none⟩ S) (nextP P Γ GL ops l outsP h d S):=by
 rw [runP_any hc];rfl
theorem runP_if {op:Op} {j:Nat} {w:Bool} (hc:isCall op=false):runP P Γ GL ops (⟨d,op,ty,pos,e,some (j,w)⟩ :: l) h S outsP=gateT (wantT (slotT ops h j) w) (offP P Γ GL ops l outsP h d S) (onceP P Γ GL ops l outsP h S ⟨d,op,ty,pos,e,some (j,w)⟩):=by
 rw [runP_any hc,guard_some]
noncomputable def joinP (p:Option Prop) (k:Option (Prop×(Nat→T))):Option (Prop×(Nat→T)):=match p,k with
 |some p,some (q,h)=>some (p∧q,h)
 |_,_=>none
theorem joinP_some {p q:Prop}:joinP (some p) (some (q,h))=some (p∧q,h):=Eq.trans rfl rfl
noncomputable def callPK (P:Program) (Γ:Env) (GL:List (Nat×List Value)) (ops l:List Oper) (outs:List T) (h:Nat→T) (S:TS) (d:Option Tmp) (f:Operand) (args:List Operand) (r:T) (_:Unit):Option (Prop×(Nat→T)):=joinP (callP P Γ GL S (args.map (evalT GL h)) (evalT GL h f) r) (runP P Γ GL ops l (putT h d r) S outs)
theorem callPK_eq {u:Unit} {f:Operand} {args:List Operand} {r:T}:callPK P Γ GL ops l outsP h S d f args r u=joinP (callP P Γ GL S (args.map (evalT GL h)) (evalT GL h f) r) (runP P Γ GL ops l (putT h d r) S outsP):=Eq.trans rfl rfl
theorem runP_callG {f:Operand} {args:Array Operand} {tys:Array TypeId} {r:T}:runP P Γ GL ops (⟨d,.call ⟨.value f,args,tys⟩,ty,pos,e,g⟩ :: l) h S (r :: outsP)=gateT (guardT ops h g) (offP P Γ GL ops l (r :: outsP) h d S) (callPK P Γ GL ops l outsP h S d f args.toList r):=by
 rw [runP]
 simp only
 cases hg:guardT ops h g with
 |none=>rfl
 |some b =>
  cases b with
  |false=>rfl
  |true =>
   simp only [gateT,callPK]
   cases callP P Γ GL S (args.toList.map (evalT GL h)) (evalT GL h f) r with
   |none=>rfl
   |some p=>cases runP P Γ GL ops l (putT h d r) S outsP<;>rfl
theorem runP_call {f:Operand} {args:Array Operand} {tys:Array TypeId} {r:T}:runP P Γ GL ops (⟨d,.call ⟨.value f,args,tys⟩,ty,pos,e,none⟩ :: l) h S (r :: outsP)=joinP (callP P Γ GL S (args.toList.map (evalT GL h)) (evalT GL h f) r) (runP P Γ GL ops l (putT h d r) S outsP):=by
 rw [runP_callG];rfl
theorem runP_callif {f:Operand} {args:Array Operand} {tys:Array TypeId} {r:T} {j:Nat} {w:Bool}:runP P Γ GL ops (⟨d,.call ⟨.value f,args,tys⟩,ty,pos,e,some (j,w)⟩ :: l) h S (r :: outsP)=gateT (wantT (slotT ops h j) w) (offP P Γ GL ops l (r :: outsP) h d S) (callPK P Γ GL ops l outsP h S d f args.toList r):=by
 rw [runP_callG,guard_some]
theorem runP_callno {f:Operand} {args:Array Operand} {tys:Array TypeId} {j:Nat} {w:Bool}:runP P Γ GL ops (⟨d,.call ⟨.value f,args,tys⟩,ty,pos,e,some (j,w)⟩ :: l) h S []=gateT (wantT (slotT ops h j) w) (offP P Γ GL ops l [] h d S) (fun _=>none):=by
 rw [runP]
 simp only [guard_some]
 cases wantT (slotT ops h j) w with
 |none=>rfl
 |some b=>cases b<;>rfl
theorem callP_fn {k:Nat} {first cap args:List T} {r:T}:callP P Γ GL S args (.fn k first cap) r=some (Call0 P Γ GL k (first++args++cap) S r):=Eq.trans rfl rfl
theorem tupd_at {t u:Nat} {v:T}:tupd h t v u=if u=t then v else h u:=Eq.trans rfl rfl
theorem pT_some {t:Tmp} {v:T}:putT h (some t) v=tupd h t v:=Eq.trans rfl rfl
theorem pT_none {v:T}:putT h none v=h:=Eq.trans rfl rfl
theorem eT_tmp {t:Tmp}:evalT GL h (.tmp t)=h t:=Eq.trans rfl rfl
theorem eT_const {v:Value}:evalT GL h (.const v)=constT v:=Eq.trans rfl rfl
theorem eT_func {f:Nat}:evalT GL h (.func f)=.fn f [] []:=Eq.trans rfl rfl
theorem eT_global {f:Nat}:evalT GL h (.global f)=globT GL f:=Eq.trans rfl rfl
theorem kT_int {k:IntKind} {n:Int}:constT (.int k n)=.int k n:=Eq.trans rfl rfl
theorem kT_bool {b:Bool}:constT (.bool b)=.bool b:=Eq.trans rfl rfl
theorem kT_str {b:ByteArray}:constT (.string b)=.str b:=Eq.trans rfl rfl
theorem kT_nils:constT (.slice none 0 0)=.nils:=Eq.trans rfl rfl
theorem kT_nilp:constT (.pointer none)=.nilp:=Eq.trans rfl rfl
theorem kT_nilm:constT (.map none)=.nilm:=Eq.trans rfl rfl
theorem kT_nilf:constT .nilFunc=.nilf:=Eq.trans rfl rfl
theorem withS_some {t:T}:withS S (some t)=some (t,S):=Eq.trans rfl rfl
theorem withJ_some:withJ (some S)=some (.junk,S):=Eq.trans rfl rfl
-- which operations are calls
theorem ic_move {x}:isCall (.move x)=false:=Eq.trans rfl rfl
theorem ic_assign {x}:isCall (.assign x)=false:=Eq.trans rfl rfl
theorem ic_pick {a b c}:isCall (.pick a b c)=false:=Eq.trans rfl rfl
theorem ic_alloc {x}:isCall (.alloc x)=false:=Eq.trans rfl rfl
theorem ic_box {x y}:isCall (.box x y)=false:=Eq.trans rfl rfl
theorem ic_build {x y}:isCall (.build x y)=false:=Eq.trans rfl rfl
theorem ic_buildSlice {x y z}:isCall (.buildSlice x y z)=false:=Eq.trans rfl rfl
theorem ic_load {x y}:isCall (.load x y)=false:=Eq.trans rfl rfl
theorem ic_store {x y z}:isCall (.store x y z)=false:=Eq.trans rfl rfl
theorem ic_nilCheck {x}:isCall (.nilCheck x)=false:=Eq.trans rfl rfl
theorem ic_bin {x y z w v}:isCall (.binOp x y z w v)=false:=Eq.trans rfl rfl
theorem ic_un {x y z}:isCall (.unOp x y z)=false:=Eq.trans rfl rfl
theorem ic_conv {x y z}:isCall (.convert x y z)=false:=Eq.trans rfl rfl
theorem ic_s2a {x y}:isCall (.sliceToArrayPointer x y)=false:=Eq.trans rfl rfl
theorem ic_makeFunc {x y z}:isCall (.makeFunc x y z)=false:=Eq.trans rfl rfl
theorem ic_lookup {x y z w}:isCall (.lookup x y z w)=false:=Eq.trans rfl rfl
theorem ic_makeMap {x y}:isCall (.makeMap x y)=false:=Eq.trans rfl rfl
theorem ic_mapUpdate {x y z w}:isCall (.mapUpdate x y z w)=false:=Eq.trans rfl rfl
theorem ic_insert {x y z w}:isCall (.insert x y z w)=false:=Eq.trans rfl rfl
theorem ic_makeSlice {x y z}:isCall (.makeSlice x y z)=false:=Eq.trans rfl rfl
theorem ic_slice {x y z w v}:isCall (.slice x y z w v)=false:=Eq.trans rfl rfl
theorem ic_fieldAddr {x y z}:isCall (.fieldAddr x y z)=false:=Eq.trans rfl rfl
theorem ic_field {x y z}:isCall (.field x y z)=false:=Eq.trans rfl rfl
theorem ic_indexAddr {x y z}:isCall (.indexAddr x y z)=false:=Eq.trans rfl rfl
theorem ic_index {x y z}:isCall (.index x y z)=false:=Eq.trans rfl rfl
theorem ic_extract {x y}:isCall (.extract x y)=false:=Eq.trans rfl rfl
theorem ic_builtin {b x y}:isCall (.call ⟨.builtin b,x,y⟩)=false:=Eq.trans rfl rfl
variable {ρ:Operand→T} {t t2:TypeId} {x y z:Operand}
theorem sT_move  : stepT P Γ own ρ ⟨d,.move x,ty,pos,e,g⟩ S=withS S (some (ρ x)):=Eq.trans rfl rfl
theorem sP_move  : stepP P Γ ρ ⟨d,.move x,ty,pos,e,g⟩ S=some (ρ x):=Eq.trans rfl rfl
theorem sT_assign  : stepT P Γ own ρ ⟨d,.assign x,ty,pos,e,g⟩ S=withS S (some (ρ x)):=Eq.trans rfl rfl
theorem sP_assign  : stepP P Γ ρ ⟨d,.assign x,ty,pos,e,g⟩ S=some (ρ x):=Eq.trans rfl rfl
theorem sT_load  : stepT P Γ own ρ ⟨d,.load t x,ty,pos,e,g⟩ S=withS S (tLoad Γ S t (ρ x)):=Eq.trans rfl rfl
theorem sP_load  : stepP P Γ ρ ⟨d,.load t x,ty,pos,e,g⟩ S=tLoad Γ S t (ρ x):=Eq.trans rfl rfl
theorem sT_nilCheck  : stepT P Γ own ρ ⟨d,.nilCheck x,ty,pos,e,g⟩ S=withS S (tNilCheck S (ρ x)):=Eq.trans rfl rfl
theorem sP_nilCheck  : stepP P Γ ρ ⟨d,.nilCheck x,ty,pos,e,g⟩ S=tNilCheck S (ρ x):=Eq.trans rfl rfl
theorem sT_s2a  : stepT P Γ own ρ ⟨d,.sliceToArrayPointer t x,ty,pos,e,g⟩ S=withS S (tS2A Γ S t (ρ x)):=Eq.trans rfl rfl
theorem sP_s2a  : stepP P Γ ρ ⟨d,.sliceToArrayPointer t x,ty,pos,e,g⟩ S=tS2A Γ S t (ρ x):=Eq.trans rfl rfl
theorem sT_fieldAddr {k:Nat}:stepT P Γ own ρ ⟨d,.fieldAddr t x k,ty,pos,e,g⟩ S=withS S (tFieldAddr Γ S t k (ρ x)):=Eq.trans rfl rfl
theorem sP_fieldAddr {k:Nat}:stepP P Γ ρ ⟨d,.fieldAddr t x k,ty,pos,e,g⟩ S=tFieldAddr Γ S t k (ρ x):=Eq.trans rfl rfl
theorem sT_field {k:Nat}:stepT P Γ own ρ ⟨d,.field t x k,ty,pos,e,g⟩ S=withS S (tField Γ t k (ρ x)):=Eq.trans rfl rfl
theorem sP_field {k:Nat}:stepP P Γ ρ ⟨d,.field t x k,ty,pos,e,g⟩ S=tField Γ t k (ρ x):=Eq.trans rfl rfl
theorem sT_indexAddr  : stepT P Γ own ρ ⟨d,.indexAddr t x y,ty,pos,e,g⟩ S=withS S (tIndexAddr Γ S t (ρ x) (ρ y)):=Eq.trans rfl rfl
theorem sP_indexAddr  : stepP P Γ ρ ⟨d,.indexAddr t x y,ty,pos,e,g⟩ S=tIndexAddr Γ S t (ρ x) (ρ y):=Eq.trans rfl rfl
theorem sT_index  : stepT P Γ own ρ ⟨d,.index t x y,ty,pos,e,g⟩ S=withS S (tIndex Γ t (ρ x) (ρ y)):=Eq.trans rfl rfl
theorem sP_index  : stepP P Γ ρ ⟨d,.index t x y,ty,pos,e,g⟩ S=tIndex Γ t (ρ x) (ρ y):=Eq.trans rfl rfl
theorem sT_extract {k:Nat}:stepT P Γ own ρ ⟨d,.extract x k,ty,pos,e,g⟩ S=withS S (tExtract k (ρ x)):=Eq.trans rfl rfl
theorem sP_extract {k:Nat}:stepP P Γ ρ ⟨d,.extract x k,ty,pos,e,g⟩ S=tExtract k (ρ x):=Eq.trans rfl rfl
theorem sT_un {u:UnOp}:stepT P Γ own ρ ⟨d,.unOp u t x,ty,pos,e,g⟩ S=withS S (tUn u (ρ x)):=Eq.trans rfl rfl
theorem sP_un {u:UnOp}:stepP P Γ ρ ⟨d,.unOp u t x,ty,pos,e,g⟩ S=tUn u (ρ x):=Eq.trans rfl rfl
theorem sT_bin {b:BinOp}:stepT P Γ own ρ ⟨d,.binOp b t x y t2,ty,pos,e,g⟩ S=withS S (tBin P Γ S t b x y (ρ x) (ρ y)):=Eq.trans rfl rfl
theorem sP_bin {b:BinOp}:stepP P Γ ρ ⟨d,.binOp b t x y t2,ty,pos,e,g⟩ S=tBin P Γ S t b x y (ρ x) (ρ y):=Eq.trans rfl rfl
theorem sT_build {parts:Array (Nat×Operand)}:stepT P Γ own ρ ⟨d,.build t parts,ty,pos,e,g⟩ S=withS S (tBuild Γ ρ t parts.toList):=Eq.trans rfl rfl
theorem sP_build {parts:Array (Nat×Operand)}:stepP P Γ ρ ⟨d,.build t parts,ty,pos,e,g⟩ S=tBuild Γ ρ t parts.toList:=Eq.trans rfl rfl
theorem sT_slice {lo hi mx:Option Operand}:stepT P Γ own ρ ⟨d,.slice t x lo hi mx,ty,pos,e,g⟩ S=withS S (tSlice Γ S t (ρ x) (lo.map ρ) (hi.map ρ) (mx.map ρ)):=Eq.trans rfl rfl
theorem sP_slice {lo hi mx:Option Operand}:stepP P Γ ρ ⟨d,.slice t x lo hi mx,ty,pos,e,g⟩ S=tSlice Γ S t (ρ x) (lo.map ρ) (hi.map ρ) (mx.map ρ):=Eq.trans rfl rfl
theorem sT_makeFunc {f:Nat} {a c:Array Operand}:stepT P Γ own ρ ⟨d,.makeFunc (.func f) a c,ty,pos,e,g⟩ S=withS S (some (.fn f (a.toList.map ρ) (c.toList.map ρ))):=Eq.trans rfl rfl
theorem sP_makeFunc {f:Nat} {a c:Array Operand}:stepP P Γ ρ ⟨d,.makeFunc (.func f) a c,ty,pos,e,g⟩ S=some (.fn f (a.toList.map ρ) (c.toList.map ρ)):=Eq.trans rfl rfl
noncomputable def pickT (c a b:T):Option T:=match c with|.bool t=>some (bif t then a else b)|_=>none
theorem pickT_t {a b:T}:pickT (.bool true) a b=some a:=Eq.trans rfl rfl
theorem pickT_f {a b:T}:pickT (.bool false) a b=some b:=Eq.trans rfl rfl
theorem sP_pick:stepP P Γ ρ ⟨d,.pick z x y,ty,pos,e,g⟩ S=pickT (ρ z) (ρ x) (ρ y):=by
 show (match ρ z with|.bool t=>some (bif t then ρ x else ρ y)|_=>none)=_
 cases ρ z<;>rfl
theorem sT_pick:stepT P Γ own ρ ⟨d,.pick z x y,ty,pos,e,g⟩ S=withS S (pickT (ρ z) (ρ x) (ρ y)):=by
 show withS S (stepP P Γ ρ ⟨d,.pick z x y,ty,pos,e,g⟩ S)=_
 rw [sP_pick]
theorem sT_alloc:stepT P Γ own ρ ⟨d,.alloc t,ty,pos,e,g⟩ S=tAlloc Γ S t:=Eq.trans rfl rfl
theorem sT_box:stepT P Γ own ρ ⟨d,.box t x,ty,pos,e,g⟩ S=tBox S (ρ x):=Eq.trans rfl rfl
theorem sT_store:stepT P Γ own ρ ⟨d,.store t x y,ty,pos,e,g⟩ S=withJ (tStore Γ S t (ρ y) (ρ x)):=Eq.trans rfl rfl
theorem sT_lookup {k:Operand} {ok:Bool}:stepT P Γ own ρ ⟨d,.lookup t x k ok,ty,pos,e,g⟩ S=withS S (tLookup Γ S t (ρ x) (ρ k) ok):=Eq.trans rfl rfl
theorem sP_lookup {k:Operand} {ok:Bool}:stepP P Γ ρ ⟨d,.lookup t x k ok,ty,pos,e,g⟩ S=tLookup Γ S t (ρ x) (ρ k) ok:=Eq.trans rfl rfl
theorem sT_makeMap:stepT P Γ own ρ ⟨d,.makeMap t none,ty,pos,e,g⟩ S=tMakeMap S:=Eq.trans rfl rfl
theorem sT_mapUpdate {k v:Operand}:stepT P Γ own ρ ⟨d,.mapUpdate t x k v,ty,pos,e,g⟩ S=withJ (tMapUpdate Γ S t (ρ k) (ρ v) (ρ x)):=Eq.trans rfl rfl
theorem sT_insert {k v:Operand}:stepT P Γ own ρ ⟨d,.insert t x k v,ty,pos,e,g⟩ S=withJ (tMapUpdate Γ S t (ρ k) (ρ v) (ρ x)):=Eq.trans rfl rfl
theorem sT_makeSlice:stepT P Γ own ρ ⟨d,.makeSlice t x y,ty,pos,e,g⟩ S=tMakeSlice Γ S t (ρ x) (ρ y):=Eq.trans rfl rfl
theorem sT_conv:stepT P Γ own ρ ⟨d,.convert t t2 x,ty,pos,e,g⟩ S=bif ownD own d then tConvOwn Γ S t t2 (ρ x) else withS S (tConvP Γ S t t2 (ρ x)):=Eq.trans rfl rfl
theorem sP_conv:stepP P Γ ρ ⟨d,.convert t t2 x,ty,pos,e,g⟩ S=tConvP Γ S t t2 (ρ x):=Eq.trans rfl rfl
theorem sT_buildSlice {n:Nat} {parts:Array (Nat×Operand)}:stepT P Γ own ρ ⟨d,.buildSlice t n parts,ty,pos,e,g⟩ S=bif ownD own d then tBuildOwn Γ S ρ t n parts.toList else withS S (tBuildFrozen Γ ρ t n parts.toList):=Eq.trans rfl rfl
theorem sP_buildSlice {n:Nat} {parts:Array (Nat×Operand)}:stepP P Γ ρ ⟨d,.buildSlice t n parts,ty,pos,e,g⟩ S=tBuildFrozen Γ ρ t n parts.toList:=Eq.trans rfl rfl
theorem sP_len:stepP P Γ ρ ⟨d,.call ⟨.builtin .len,#[x],#[t]⟩,ty,pos,e,g⟩ S=tLen Γ S t (ρ x):=Eq.trans rfl rfl
theorem sT_len:stepT P Γ own ρ ⟨d,.call ⟨.builtin .len,#[x],#[t]⟩,ty,pos,e,g⟩ S=withS S (tLen Γ S t (ρ x)):=Eq.trans rfl rfl
theorem sT_append:stepT P Γ own ρ ⟨d,.call ⟨.builtin .append,#[x,y],#[t,t2]⟩,ty,pos,e,g⟩ S=bif srcT Γ t2 then tAppend Γ S t (ρ y) (ρ x) else none:=Eq.trans rfl rfl
theorem sT_copy:stepT P Γ own ρ ⟨d,.call ⟨.builtin .copy,#[x,y],#[t,t2]⟩,ty,pos,e,g⟩ S=tCopy Γ S t (ρ y) (ρ x):=Eq.trans rfl rfl
noncomputable def minT (a b:T):Option T:=match a,b with|.int k a,.int _ b=>some (.int k (min a b))|_,_=>none
noncomputable def maxT (a b:T):Option T:=match a,b with|.int k a,.int _ b=>some (.int k (max a b))|_,_=>none
theorem minT_int {k k':IntKind} {a b:Int}:minT (.int k a) (.int k' b)=some (.int k (min a b)):=Eq.trans rfl rfl
theorem maxT_int {k k':IntKind} {a b:Int}:maxT (.int k a) (.int k' b)=some (.int k (max a b)):=Eq.trans rfl rfl
theorem sP_min {tys:Array TypeId}:stepP P Γ ρ ⟨d,.call ⟨.builtin .min,#[x,y],tys⟩,ty,pos,e,g⟩ S=minT (ρ x) (ρ y):=by
 show (match ρ x,ρ y with|.int k a,.int _ b=>some (T.int k (min a b))|_,_=>none)=_
 cases ρ x<;>cases ρ y<;>rfl
theorem sT_min {tys:Array TypeId}:stepT P Γ own ρ ⟨d,.call ⟨.builtin .min,#[x,y],tys⟩,ty,pos,e,g⟩ S=withS S (minT (ρ x) (ρ y)):=by
 show withS S (stepP P Γ ρ ⟨d,.call ⟨.builtin .min,#[x,y],tys⟩,ty,pos,e,g⟩ S)=_
 rw [sP_min]
theorem sP_max {tys:Array TypeId}:stepP P Γ ρ ⟨d,.call ⟨.builtin .max,#[x,y],tys⟩,ty,pos,e,g⟩ S=maxT (ρ x) (ρ y):=by
 show (match ρ x,ρ y with|.int k a,.int _ b=>some (T.int k (max a b))|_,_=>none)=_
 cases ρ x<;>cases ρ y<;>rfl
theorem sT_max {tys:Array TypeId}:stepT P Γ own ρ ⟨d,.call ⟨.builtin .max,#[x,y],tys⟩,ty,pos,e,g⟩ S=withS S (maxT (ρ x) (ρ y)):=by
 show withS S (stepP P Γ ρ ⟨d,.call ⟨.builtin .max,#[x,y],tys⟩,ty,pos,e,g⟩ S)=_
 rw [sP_max]
theorem tB_int {b:BinOp} {k k':IntKind} {m n:Int}:tBin P Γ S t b x y (.int k m) (.int k' n)=intBin b k k' m n:=Eq.trans rfl rfl
theorem tB_str {b:BinOp} {m n:ByteArray}:tBin P Γ S t b x y (.str m) (.str n)=strBin b m n:=Eq.trans rfl rfl
theorem sb_eql {m n:ByteArray}:strBin .eql m n=some (.bool (decide (m=n))):=Eq.trans rfl rfl
theorem sb_neq {m n:ByteArray}:strBin .neq m n=some (.bool (!decide (m=n))):=Eq.trans rfl rfl
theorem tU_not {b:Bool}:tUn .not (.bool b)=some (.bool (!b)):=Eq.trans rfl rfl
theorem tU_neg {k:IntKind} {n:Int}:tUn .neg (.int k n)=some (.int k (k.wrap (0 - n))):=Eq.trans rfl rfl
end
section
variable {k:IntKind} {a b:Int}
theorem ib_add:intBin .add k k a b=some (.int k (k.wrap (a+b))):=by simp [intBin]
theorem ib_sub:intBin .sub k k a b=some (.int k (k.wrap (a - b))):=by simp [intBin]
theorem ib_mul:intBin .mul k k a b=some (.int k (k.wrap (a*b))):=by simp [intBin]
theorem ib_eql:intBin .eql k k a b=some (.bool (decide (a=b))):=by simp [intBin]
theorem ib_neq:intBin .neq k k a b=some (.bool (decide (a≠b))):=by simp [intBin]
theorem ib_lss:intBin .lss k k a b=some (.bool (decide (a<b))):=by simp [intBin]
theorem ib_leq:intBin .leq k k a b=some (.bool (decide (a≤b))):=by simp [intBin]
theorem ib_gtr:intBin .gtr k k a b=some (.bool (decide (b<a))):=by simp [intBin]
theorem ib_geq:intBin .geq k k a b=some (.bool (decide (b≤a))):=by simp [intBin]
theorem ib_quo (ha:0≤a) (hb:0<b):intBin .quo k k a b=some (.int k (k.wrap (a / b))):=by
 simp only [intBin,Nat.beq_refl,cond_true]
 rw [if_neg (by omega),Int.tdiv_eq_ediv_of_nonneg ha]
theorem ib_rem (ha:0≤a) (hb:0<b):intBin .rem k k a b=some (.int k (a % b)):=by
 simp only [intBin,Nat.beq_refl,cond_true]
 rw [if_neg (by omega),Int.tmod_eq_emod_of_nonneg ha]
theorem ib_and:intBin .and k k a b=some (.int k (k.wrap (BitVec.ofInt k.bits a &&& BitVec.ofInt k.bits b).toNat)):=by simp [intBin]
theorem ib_or:intBin .or k k a b=some (.int k (k.wrap (BitVec.ofInt k.bits a ||| BitVec.ofInt k.bits b).toNat)):=by simp [intBin]
theorem ib_xor:intBin .xor k k a b=some (.int k (k.wrap (BitVec.ofInt k.bits a ^^^ BitVec.ofInt k.bits b).toNat)):=by simp [intBin]
theorem ib_shl {k':IntKind} (hb:0≤b):intBin .shl k k' a b=some (.int k (k.wrap (a*2 ^ (min b.toNat k.bits)))):=by simp [intBin,hb]
theorem ib_shr {k':IntKind} (hb:0≤b):intBin .shr k k' a b=some (.int k (a.fdiv (2 ^ (min b.toNat k.bits)))):=by simp [intBin,hb]
theorem natT_of {n:Int} (h:0≤n):natT (.int k n)=some n.toNat:=by
 obtain ⟨m,rfl⟩:=Int.eq_ofNat_of_zero_le h
 rfl
theorem natI_of {n:Int} (h:0≤n):natOf (.int k n)=some n.toNat:=by
 obtain ⟨m,rfl⟩:=Int.eq_ofNat_of_zero_le h
 rfl
theorem ofIntT_int {n:Int}:ofIntT (.int k n)=.int k n:=Eq.trans rfl rfl
theorem get_some {α:Type} [Inhabited α] {L:List α} {n:Nat} (h:n<L.length):L[n]?=some (L.getD n default):=by
 rw [List.getD_eq_getElem?_getD,List.getElem?_eq_getElem h];rfl
def stL (l:List Box):TS:=⟨l.length,fun i=>l.getD i .gone⟩
theorem ts0_st:ts0=stL []:=rfl
theorem st_n (l:List Box):(stL l).n=l.length:=rfl
theorem st_box (l:List Box) (i:Nat):(stL l).box i=l.getD i .gone:=rfl
theorem st_add (l:List Box) (x:Box):(stL l).add x=stL (l++[x]):=by
 unfold stL TS.add
 simp only [List.length_append,List.length_cons,List.length_nil]
 congr 1
 funext i
 by_cases hi:i<l.length
 ·rw [if_neg (by omega),List.getD_eq_getElem?_getD,List.getD_eq_getElem?_getD,List.getElem?_append_left hi]
 ·by_cases he:i=l.length
  ·subst he;rw [if_pos rfl];simp
  ·rw [if_neg he,List.getD_eq_getElem?_getD,List.getD_eq_getElem?_getD,List.getElem?_eq_none (by omega),List.getElem?_eq_none (by simp;omega)]
theorem st_set (l:List Box) (b:Nat) (x:Box) (h:b<l.length):(stL l).set b x=stL (l.set b x):=by
 unfold stL TS.set
 simp only [List.length_set]
 congr 1
 funext i
 rw [List.getD_eq_getElem?_getD,List.getD_eq_getElem?_getD,List.getElem?_set]
 by_cases hi:i=b
 ·subst hi;rw [if_pos rfl,if_pos rfl,if_pos h];rfl
 ·rw [if_neg hi,if_neg (fun hh=>hi hh.symm)]
theorem getD_zero {α:Type} (x d:α) (l:List α):(x :: l).getD 0 d=x:=rfl
theorem getD_succ {α:Type} (x d:α) (l:List α) (n:Nat):(x :: l).getD (n+1) d=l.getD n d:=rfl
end
end Go.Proofs.YtcgdomhednbdpaaDoor
namespace Go.Proofs.YtcgdomhednbdpaaDoor
open Go Go.RowKit
def keepT (l:List Nat) (h:Nat→T):Nat→T:=fun t=>if t∈l then h t else .junk
def keepIds:List Nat→Nat→(Nat→T)→Prop
  |[],_,_=>True
  |t :: l,n,h=>(h t).ids n=true∧keepIds l n h
theorem keepIds_mem {n:Nat} {h:Nat→T}:∀ {l:List Nat},keepIds l n h→∀ t,t∈l→(h t).ids n=true
  |[],_,t,ht=>by simp at ht
  |x :: l,k,t,ht=>by
    rcases List.mem_cons.1 ht with rfl|ht
    · exact k.1
    · exact keepIds_mem k.2 t ht
def boxesIds (n:Nat):List Box→Bool
  |[]=>true
  |b :: l=>boxIds n b && boxesIds n l
theorem spl_one {l:List T} {i:Nat} {x:T} (h:i<l.length):spl l i [x]=l.set i x:=by
  unfold spl
  rw [List.set_eq_take_append_cons_drop,if_pos h]
  simp
theorem set_map {α:Type} {L:List α} {f:α→T} {i:Nat} {v:α}:(L.map f).set i (f v)=(L.set i v).map f:=(List.map_set).symm
theorem spl_0 {l:List T}:spl l 0 []=l:=by simp [spl]
theorem spl_s {a:T} {l xs:List T} {n:Nat}:spl (a :: l) (n+1) xs=a :: spl l n xs:=by
  unfold spl
  rw [show n+1+xs.length=(n+xs.length)+1 by omega]
  simp
theorem spl_c {a x:T} {l xs:List T}:spl (a :: l) 0 (x :: xs)=x :: spl l 0 xs:=by simp [spl]
theorem spl_map {α:Type} {L:List α} {f:α→T} {i:Nat} {v:α} (h:i<L.length):spl (L.map f) i [f v]=(L.set i v).map f:=by
  rw [spl_one (by rw [List.length_map];exact h),set_map]
theorem rep_int (n:Nat) (k:IntKind) (z:Int):rep n [.int k z]=(List.replicate n z).map (T.int k):=by
  unfold rep
  induction n with
  |zero=>rfl
  |succ n ih=>rw [List.replicate_succ,List.flatten_cons,ih,List.replicate_succ];rfl
theorem rep_bool (n:Nat) (z:Bool):rep n [.bool z]=(List.replicate n z).map T.bool:=by
  unfold rep
  induction n with
  |zero=>rfl
  |succ n ih=>rw [List.replicate_succ,List.flatten_cons,ih,List.replicate_succ];rfl
theorem cells_map {α:Type} {L:List α} {f:α→T} (h:∀ x,(f x).cells=[f x]):(L.map f).flatMap T.cells=L.map f:=by
  induction L with
  |nil=>rfl
  |cons x l ih=>rw [List.map_cons,List.flatMap_cons,h,ih];rfl
section
variable {GL:List (Nat×List Value)} {A A' A2:Nat→Prop} {β β' β2:Bx} {S S' S2:TS} {s s' s2:CS} {P:Program} {Γ:Env} {N:Nat} {h h' h2:Nat→T} {Q R:Exit→(Nat→T)→TS→Prop}
theorem keepT_at {l:List Nat} {t:Nat} (ht:t∈l):keepT l h t=h t:=if_pos ht
theorem boxesIds_get {n:Nat} {l:List Box}:∀ {i:Nat},boxesIds n l=true→boxIds n (l.getD i .gone)=true:=by
  induction l with
  |nil=>intro i _;rfl
  |cons b l ih =>
    intro i h
    simp only [boxesIds,Bool.and_eq_true] at h
    cases i with
    |zero=>exact h.1
    |succ i=>exact ih h.2
theorem Left.trim {fr fr':Fr} {keep:List Nat} {bs bs2 extra:List Box} (hT:TRel GL A β (stL bs) s) (k:Left GL A β s N fr' s' h' (stL (bs2++extra))) (hl:bs2.length=bs.length) (hb:boxesIds bs.length bs2=true) (hk:keepIds keep bs.length h'):Left GL A β s N fr' s' (keepT keep h') (stL bs2):=by
  obtain ⟨A',β',k1,k2,k3⟩:=k
  have hat:∀ b,b<bs.length→bcut β' bs.length b=β' b:=fun b hb=>if_pos hb
  have hsub:∀ b l,bcut β' bs.length b=some l→β' b=some l:=fun b l h=>by
    unfold bcut at h
    split at h
    · exact h
    · simp at h
  have hkp:Keeps (stL (bs2++extra)) (stL bs2):=by
    refine ⟨by simp [stL],fun b=>?_⟩
    by_cases hbl:b<bs2.length
    · refine .inr ⟨hbl,?_,?_⟩
      · show bs2.getD b .gone=(bs2++extra).getD b .gone
        rw [List.getD_eq_getElem?_getD,List.getD_eq_getElem?_getD,List.getElem?_append_left hbl]
      · show boxIds bs2.length ((bs2++extra).getD b .gone)=true
        rw [List.getD_eq_getElem?_getD,List.getElem?_append_left hbl,← List.getD_eq_getElem?_getD,hl]
        exact boxesIds_get hb
    · left
      show bs2.getD b .gone=.gone
      rw [List.getD_eq_getElem?_getD,List.getElem?_eq_none (by omega)];rfl
  have hcut:=k2.cut hkp
  have hn:(stL bs2).n=bs.length:=hl
  rw [hn] at hcut
  refine ⟨A',bcut β' bs.length,⟨k1.nt,k1.le,fun t=>?_⟩,hcut,k3.can,k3.sub,k3.new,fun f hf=>?_,k3.keep,fun b l hb'=>?_,k3.rd,k3.wr⟩
  · by_cases ht:t∈keep
    · rw [keepT_at ht];exact (k1.slot t).ids hat (keepIds_mem hk t ht)
    · rw [show keepT keep h' t=.junk from if_neg ht];exact .junk _
  · obtain ⟨b,hb'⟩:=hf
    exact k3.own f ⟨b,hb'.imp (fun ⟨u,N,h⟩=>⟨u,N,hsub _ _ h⟩) fun h=>hsub _ _ h⟩
  · obtain ⟨l',c1,c2⟩:=k3.bx b l hb'
    have:b<bs.length:=by
      by_cases hh:b<bs.length
      · exact hh
      · rw [hT.next b (by show bs.length≤b;omega)] at hb';simp at hb'
    exact ⟨l',by rw [hat b this];exact c1,c2⟩
def Round (keep:List Nat) (n:Nat) (I:Nat→(Nat→T)→List Box→Prop) (m0:Nat) (h':Nat→T) (S':TS):Prop :=
  ∃ m,m<m0∧∃ bs',S'=stL bs'∧n≤bs'.length∧boxesIds n (bs'.take n)=true∧keepIds keep n h'∧I m (keepT keep h') (bs'.take n)
theorem TW.loopT {b:Code} (keep:List Nat) (I:Nat→(Nat→T)→List Box→Prop) (hb:∀ m h bs,I m h bs→TW P Γ GL N b h (stL bs) (onT (fun h' S'=>Round keep bs.length I m h' S') Q)):∀ m h bs,I m h bs→TW P Γ GL N (.loop b) h (stL bs) Q:=by
  intro m
  induction m using Nat.strongRecOn with
  |_ m ih =>
    intro h bs hI A β fr s hF hT
    obtain ⟨e,fr1,s1,h1,h',S',hleft,hq⟩:=hb m h bs hI A β fr s hF hT
    cases e with
    |normal =>
      obtain ⟨m2,hm,bs',rfl,hl,hbi,hki,hI'⟩:=hq
      have hl2:=Left.trim (fr:=fr) (keep:=keep) (bs2:=bs'.take bs.length) (extra:=bs'.drop bs.length) hT (by rw [List.take_append_drop];exact hleft) (by rw [List.length_take];omega) hbi hki
      obtain ⟨A',β',k1,k2,k3⟩:=hl2
      obtain ⟨e2,fr2,s2,h3,h2,S2,l2,q2⟩:=ih m2 hm _ _ hI' A' β' fr1 s1 k1 k2
      exact ⟨e2,fr2,s2,Ev.again h1 h3,h2,S2,Left.trans (h':=h) (fr':=fr) hT.le k3 l2,q2⟩
    |_=>exact ⟨_,_,_,Ev.last h1 (by simp),h',S',hleft,hq⟩
def Ends (keep:List Nat) (n:Nat) (R:(Nat→T)→List Box→Prop) (h':Nat→T) (S':TS):Prop :=
  ∃ bs',S'=stL bs'∧n≤bs'.length∧boxesIds n (bs'.take n)=true∧keepIds keep n h'∧R (keepT keep h') (bs'.take n)
theorem TRel.freezeP (hT : TRel GL A β S s) {b M : Nat} {z : Bool} {l : List T} (hS : S.box b = .cells z M l) :
    ∃ A' β',TRel GL A' β' (S.set b .gone) s∧Stp A β s A' β' s∧∀ {v:Value},VT A β (objAt s.obj) (.ptr b 0 M) v→VT A' β' (objAt s.obj) (.cp l) v:=by
  obtain ⟨hlN,hc⟩:=hT.cells b z M l hS
  rcases hc with ⟨hb,hN,_⟩|⟨f,u,cs,rest,hb,hz,hat,hvl,hone⟩
  · obtain ⟨k1,k2⟩:=hT.dead hb A (fun _ h=>h) (fun _ h=>.inl h)
    refine ⟨_,_,k1,k2,fun {v} hv=>?_⟩
    obtain ⟨f,u,rfl,hb'⟩:=ptr_inv hT hS hv
    rw [hb] at hb';simp at hb'
  · obtain ⟨k1,k2⟩:=hT.dead hb (fun k=>A k∨k=f) (fun _ h=>.inl h) (fun k hk=>hk.imp id fun q=>by rw [q];rfl)
    refine ⟨_,_,k1,k2,fun {v} hv=>?_⟩
    obtain ⟨f',u',rfl,hb'⟩:=ptr_inv hT hS hv
    rw [hb] at hb';cases hb'
    have hrow:rowOf (objAt s.obj f).rows u=some cs:=by
      rw [hat]
      show rowOf ((u,cs) :: rest) u=some cs
      unfold rowOf;rw [Nat.beq_refl];rfl
    exact .cp (.inr rfl) hrow (hvl.mono (fun _ h=>.inl h) (fun _ _=>rfl) k2.bx) (by rw [List.drop_zero,List.take_length])
theorem TW.freezeP {c:Code} (t:Nat) {b M:Nat} {z:Bool} {l:List T} (ht:h t=.ptr b 0 M) (hS:S.box b=.cells z M l) (k:TW P Γ GL N c (tupd h t (.cp l)) (S.set b .gone) Q):TW P Γ GL N c h S Q:=by
  intro A β fr s hF hT
  obtain ⟨A',β',k1,k2,k3⟩:=hT.freezeP hS
  have hv:=hF.slot t
  rw [ht] at hv
  have hF':FrOk A' β' (objAt s.obj) N (tupd h t (.cp l)) fr:=⟨hF.nt,hF.le,fun u=>by
    by_cases hu:u=t
    · subst hu;rw [tupd_same];exact k3 hv
    · rw [tupd_ne _ _ _ _ hu];exact k2.vt hT (hF.slot u)⟩
  refine (k A' β' fr s hF' k1).mono ?_
  rintro e2 fr2 s2 ⟨h2,S2,l2,q2⟩
  exact ⟨h2,S2,Left.trans (h':=h) (fr':=fr) hT.le k2 l2,q2⟩
theorem TW.cut {a:Code} {k:(Nat→T)→TS→Prop} (keep:List Nat) {bs:List Box} (R:(Nat→T)→List Box→Prop) (hR:TW P Γ GL N a h (stL bs) fun e h' S'=>e=.normal∧Ends keep bs.length R h' S') (hk:∀ h bs2,R h bs2→k h (stL bs2)):TW P Γ GL N a h (stL bs) (onT k Q):=by
  intro A β fr s hF hT
  obtain ⟨e,fr1,s1,h1,h',S',hleft,rfl,bs',rfl,hl,hbi,hki,hq⟩:=hR A β fr s hF hT
  exact ⟨_,fr1,s1,h1,_,_,Left.trim (fr:=fr) (keep:=keep) (bs2:=bs'.take bs.length) (extra:=bs'.drop bs.length) hT (by rw [List.take_append_drop];exact hleft) (by rw [List.length_take];omega) hbi hki,hk _ _ hq⟩
end
end Go.Proofs.YtcgdomhednbdpaaDoor
namespace Go.Proofs.YtcgdomhednbdpaaDoor
open Go Go.RowKit
theorem oneT_int {k:IntKind} {n:Int}:T.one (T.int k n)=true:=Eq.trans rfl rfl
theorem celT_int {k:IntKind} {n:Int}:T.cells (T.int k n)=[(T.int k n)]:=Eq.trans rfl rfl
theorem oneT_bool {b:Bool}:T.one (T.bool b)=true:=Eq.trans rfl rfl
theorem celT_bool {b:Bool}:T.cells (T.bool b)=[(T.bool b)]:=Eq.trans rfl rfl
theorem oneT_str {b:ByteArray}:T.one (T.str b)=true:=Eq.trans rfl rfl
theorem celT_str {b:ByteArray}:T.cells (T.str b)=[(T.str b)]:=Eq.trans rfl rfl
theorem oneT_lst {e:Nat} {l:List T}:T.one (T.lst e l)=true:=Eq.trans rfl rfl
theorem celT_lst {e:Nat} {l:List T}:T.cells (T.lst e l)=[(T.lst e l)]:=Eq.trans rfl rfl
theorem oneT_nils  : T.one (T.nils)=true:=Eq.trans rfl rfl
theorem celT_nils  : T.cells (T.nils)=[(T.nils)]:=Eq.trans rfl rfl
theorem oneT_nilp  : T.one (T.nilp)=true:=Eq.trans rfl rfl
theorem celT_nilp  : T.cells (T.nilp)=[(T.nilp)]:=Eq.trans rfl rfl
theorem oneT_nilm  : T.one (T.nilm)=true:=Eq.trans rfl rfl
theorem celT_nilm  : T.cells (T.nilm)=[(T.nilm)]:=Eq.trans rfl rfl
theorem oneT_nilf  : T.one (T.nilf)=true:=Eq.trans rfl rfl
theorem celT_nilf  : T.cells (T.nilf)=[(T.nilf)]:=Eq.trans rfl rfl
theorem oneT_ptr {b o n:Nat}:T.one (T.ptr b o n)=true:=Eq.trans rfl rfl
theorem celT_ptr {b o n:Nat}:T.cells (T.ptr b o n)=[(T.ptr b o n)]:=Eq.trans rfl rfl
theorem oneT_cp {l:List T}:T.one (T.cp l)=true:=Eq.trans rfl rfl
theorem celT_cp {l:List T}:T.cells (T.cp l)=[(T.cp l)]:=Eq.trans rfl rfl
theorem oneT_arr {b e o l c n:Nat}:T.one (T.arr b e o l c n)=true:=Eq.trans rfl rfl
theorem celT_arr {b e o l c n:Nat}:T.cells (T.arr b e o l c n)=[(T.arr b e o l c n)]:=Eq.trans rfl rfl
theorem oneT_mp {b:Nat}:T.one (T.mp b)=true:=Eq.trans rfl rfl
theorem celT_mp {b:Nat}:T.cells (T.mp b)=[(T.mp b)]:=Eq.trans rfl rfl
theorem oneT_fn {f:Nat} {a c:List T}:T.one (T.fn f a c)=true:=Eq.trans rfl rfl
theorem celT_fn {f:Nat} {a c:List T}:T.cells (T.fn f a c)=[(T.fn f a c)]:=Eq.trans rfl rfl
theorem oneT_emp {e:Nat}:T.one (T.emp e)=true:=Eq.trans rfl rfl
theorem celT_emp {e:Nat}:T.cells (T.emp e)=[(T.emp e)]:=Eq.trans rfl rfl
theorem aggT_i {k:IntKind}:aggT (.int k)=false:=Eq.trans rfl rfl
theorem aggT_b  : aggT .bool=false:=Eq.trans rfl rfl
theorem aggT_s  : aggT .string=false:=Eq.trans rfl rfl
theorem aggT_l {k:TypeId}:aggT (.slice k)=false:=Eq.trans rfl rfl
theorem aggT_p {k:TypeId}:aggT (.pointer k)=false:=Eq.trans rfl rfl
theorem aggT_m {k k2:TypeId}:aggT (.map k k2)=false:=Eq.trans rfl rfl
theorem b0:type_of% (And.intro (And.intro (And.intro (And.intro (And.intro (@runT_op) (@runT_if)) (And.intro (@runT_call) (@runT_callif))) (And.intro (And.intro (@runT_callno) (@runT_nil)) (And.intro (@next_eq) (@off_eq)))) (And.intro (And.intro (And.intro (@once_eq) (@callK_eq)) (And.intro (@runP_op) (@runP_if))) (And.intro (And.intro (@runP_call) (@runP_callif)) (And.intro (@runP_callno) (@runP_nil))))) (And.intro (And.intro (And.intro (And.intro (@nextP_eq) (@offP_eq)) (And.intro (@onceP_eq) (@callPK_eq))) (And.intro (And.intro (@want_tt) (@want_tf)) (And.intro (@want_ft) (@want_ff)))) (And.intro (And.intro (And.intro (@want_no) (@slotT_zero)) (And.intro (@slotT_succ) (@gate_on))) (And.intro (And.intro (@gate_off) (@then_some)) (And.intro (@thenP_some) (@join_some)))))):=And.intro (And.intro (And.intro (And.intro (And.intro (@runT_op) (@runT_if)) (And.intro (@runT_call) (@runT_callif))) (And.intro (And.intro (@runT_callno) (@runT_nil)) (And.intro (@next_eq) (@off_eq)))) (And.intro (And.intro (And.intro (@once_eq) (@callK_eq)) (And.intro (@runP_op) (@runP_if))) (And.intro (And.intro (@runP_call) (@runP_callif)) (And.intro (@runP_callno) (@runP_nil))))) (And.intro (And.intro (And.intro (And.intro (@nextP_eq) (@offP_eq)) (And.intro (@onceP_eq) (@callPK_eq))) (And.intro (And.intro (@want_tt) (@want_tf)) (And.intro (@want_ft) (@want_ff)))) (And.intro (And.intro (And.intro (@want_no) (@slotT_zero)) (And.intro (@slotT_succ) (@gate_on))) (And.intro (And.intro (@gate_off) (@then_some)) (And.intro (@thenP_some) (@join_some)))))
theorem b1:type_of% (And.intro (And.intro (And.intro (And.intro (And.intro (@joinP_some) (@callT_fn)) (And.intro (@callP_fn) (@pT_some))) (And.intro (And.intro (@pT_none) (@eT_tmp)) (And.intro (@eT_const) (@eT_func)))) (And.intro (And.intro (And.intro (@eT_global) (@kT_int)) (And.intro (@kT_bool) (@kT_str))) (And.intro (And.intro (@kT_nils) (@kT_nilp)) (And.intro (@kT_nilm) (@kT_nilf))))) (And.intro (And.intro (And.intro (And.intro (@withS_some) (@withJ_some)) (And.intro (@ic_move) (@ic_assign))) (And.intro (And.intro (@ic_pick) (@ic_alloc)) (And.intro (@ic_box) (@ic_build)))) (And.intro (And.intro (And.intro (@ic_buildSlice) (@ic_load)) (And.intro (@ic_store) (@ic_nilCheck))) (And.intro (And.intro (@ic_bin) (@ic_un)) (And.intro (@ic_conv) (@ic_s2a)))))):=And.intro (And.intro (And.intro (And.intro (And.intro (@joinP_some) (@callT_fn)) (And.intro (@callP_fn) (@pT_some))) (And.intro (And.intro (@pT_none) (@eT_tmp)) (And.intro (@eT_const) (@eT_func)))) (And.intro (And.intro (And.intro (@eT_global) (@kT_int)) (And.intro (@kT_bool) (@kT_str))) (And.intro (And.intro (@kT_nils) (@kT_nilp)) (And.intro (@kT_nilm) (@kT_nilf))))) (And.intro (And.intro (And.intro (And.intro (@withS_some) (@withJ_some)) (And.intro (@ic_move) (@ic_assign))) (And.intro (And.intro (@ic_pick) (@ic_alloc)) (And.intro (@ic_box) (@ic_build)))) (And.intro (And.intro (And.intro (@ic_buildSlice) (@ic_load)) (And.intro (@ic_store) (@ic_nilCheck))) (And.intro (And.intro (@ic_bin) (@ic_un)) (And.intro (@ic_conv) (@ic_s2a)))))
theorem b2:type_of% (And.intro (And.intro (And.intro (And.intro (And.intro (@ic_makeFunc) (@ic_makeSlice)) (And.intro (@ic_slice) (@ic_fieldAddr))) (And.intro (And.intro (@ic_field) (@ic_indexAddr)) (And.intro (@ic_index) (@ic_extract)))) (And.intro (And.intro (And.intro (@ic_builtin) (@sT_move)) (And.intro (@sP_move) (@sT_assign))) (And.intro (And.intro (@sP_assign) (@sT_load)) (And.intro (@sP_load) (@sT_nilCheck))))) (And.intro (And.intro (And.intro (And.intro (@sP_nilCheck) (@sT_s2a)) (And.intro (@sP_s2a) (@sT_fieldAddr))) (And.intro (And.intro (@sP_fieldAddr) (@sT_field)) (And.intro (@sP_field) (@sT_indexAddr)))) (And.intro (And.intro (And.intro (@sP_indexAddr) (@sT_index)) (And.intro (@sP_index) (@sT_extract))) (And.intro (And.intro (@sP_extract) (@sT_un)) (And.intro (@sP_un) (@sT_bin)))))):=And.intro (And.intro (And.intro (And.intro (And.intro (@ic_makeFunc) (@ic_makeSlice)) (And.intro (@ic_slice) (@ic_fieldAddr))) (And.intro (And.intro (@ic_field) (@ic_indexAddr)) (And.intro (@ic_index) (@ic_extract)))) (And.intro (And.intro (And.intro (@ic_builtin) (@sT_move)) (And.intro (@sP_move) (@sT_assign))) (And.intro (And.intro (@sP_assign) (@sT_load)) (And.intro (@sP_load) (@sT_nilCheck))))) (And.intro (And.intro (And.intro (And.intro (@sP_nilCheck) (@sT_s2a)) (And.intro (@sP_s2a) (@sT_fieldAddr))) (And.intro (And.intro (@sP_fieldAddr) (@sT_field)) (And.intro (@sP_field) (@sT_indexAddr)))) (And.intro (And.intro (And.intro (@sP_indexAddr) (@sT_index)) (And.intro (@sP_index) (@sT_extract))) (And.intro (And.intro (@sP_extract) (@sT_un)) (And.intro (@sP_un) (@sT_bin)))))
theorem b3:type_of% (And.intro (And.intro (And.intro (And.intro (And.intro (@sP_bin) (@sT_build)) (And.intro (@sP_build) (@sT_slice))) (And.intro (And.intro (@sP_slice) (@sT_makeFunc)) (And.intro (@sP_makeFunc) (@sT_pick)))) (And.intro (And.intro (And.intro (@sP_pick) (@sT_conv)) (And.intro (@sP_conv) (@sT_buildSlice))) (And.intro (And.intro (@sP_buildSlice) (@sT_len)) (And.intro (@sP_len) (@sT_min))))) (And.intro (And.intro (And.intro (And.intro (@sP_min) (@sT_max)) (And.intro (@sP_max) (@sT_alloc))) (And.intro (And.intro (@sT_box) (@sT_store)) (And.intro (@sT_makeSlice) (@sT_append)))) (And.intro (And.intro (And.intro (@sT_copy) (@pickT_t)) (And.intro (@pickT_f) (@minT_int))) (And.intro (And.intro (@maxT_int) (@tB_int)) (And.intro (@tB_str) (@sb_eql)))))):=And.intro (And.intro (And.intro (And.intro (And.intro (@sP_bin) (@sT_build)) (And.intro (@sP_build) (@sT_slice))) (And.intro (And.intro (@sP_slice) (@sT_makeFunc)) (And.intro (@sP_makeFunc) (@sT_pick)))) (And.intro (And.intro (And.intro (@sP_pick) (@sT_conv)) (And.intro (@sP_conv) (@sT_buildSlice))) (And.intro (And.intro (@sP_buildSlice) (@sT_len)) (And.intro (@sP_len) (@sT_min))))) (And.intro (And.intro (And.intro (And.intro (@sP_min) (@sT_max)) (And.intro (@sP_max) (@sT_alloc))) (And.intro (And.intro (@sT_box) (@sT_store)) (And.intro (@sT_makeSlice) (@sT_append)))) (And.intro (And.intro (And.intro (@sT_copy) (@pickT_t)) (And.intro (@pickT_f) (@minT_int))) (And.intro (And.intro (@maxT_int) (@tB_int)) (And.intro (@tB_str) (@sb_eql)))))
theorem b4:type_of% (And.intro (And.intro (And.intro (And.intro (And.intro (@sb_neq) (@tU_not)) (And.intro (@tU_neg) (@tupd_at))) (And.intro (And.intro (@ofIntT_int) (@natT_of)) (And.intro (@natI_of) (@rep_int)))) (And.intro (And.intro (And.intro (@rep_bool) (@spl_0)) (And.intro (@spl_s) (@spl_c))) (And.intro (And.intro (@ib_add) (@ib_sub)) (And.intro (@ib_mul) (@ib_eql))))) (And.intro (And.intro (And.intro (And.intro (@ib_neq) (@ib_lss)) (And.intro (@ib_leq) (@ib_gtr))) (And.intro (And.intro (@ib_geq) (@ib_quo)) (And.intro (@ib_rem) (@ts0_st)))) (And.intro (And.intro (And.intro (@st_n) (@st_box)) (And.intro (@st_add) (@st_set))) (And.intro (And.intro (@getD_zero) (@getD_succ)) (And.intro (@cond_true.{1}) (@cond_false.{1})))))):=And.intro (And.intro (And.intro (And.intro (And.intro (@sb_neq) (@tU_not)) (And.intro (@tU_neg) (@tupd_at))) (And.intro (And.intro (@ofIntT_int) (@natT_of)) (And.intro (@natI_of) (@rep_int)))) (And.intro (And.intro (And.intro (@rep_bool) (@spl_0)) (And.intro (@spl_s) (@spl_c))) (And.intro (And.intro (@ib_add) (@ib_sub)) (And.intro (@ib_mul) (@ib_eql))))) (And.intro (And.intro (And.intro (And.intro (@ib_neq) (@ib_lss)) (And.intro (@ib_leq) (@ib_gtr))) (And.intro (And.intro (@ib_geq) (@ib_quo)) (And.intro (@ib_rem) (@ts0_st)))) (And.intro (And.intro (And.intro (@st_n) (@st_box)) (And.intro (@st_add) (@st_set))) (And.intro (And.intro (@getD_zero) (@getD_succ)) (And.intro (@cond_true.{1}) (@cond_false.{1})))))
theorem b5:type_of% (And.intro (And.intro (And.intro (And.intro (And.intro (@List.toList_toArray.{0}) (@List.map_cons.{0,0})) (And.intro (@List.map_nil.{0,0}) (@List.length_cons.{0}))) (And.intro (And.intro (@List.length_nil.{0}) (@List.length_map.{0,0})) (And.intro (@List.getElem?_cons_zero.{0}) (@List.getElem?_cons_succ.{0})))) (And.intro (And.intro (And.intro (@List.getElem?_map.{0,0}) (@Option.map_some.{0,0})) (And.intro (@Option.map_none.{0,0}) (@List.nil_append.{0}))) (And.intro (And.intro (@List.cons_append.{0}) (@List.append_nil.{0})) (And.intro (@List.all_cons.{0}) (@List.all_nil.{0}))))) (And.intro (And.intro (And.intro (And.intro (@List.drop_zero.{0}) (@List.drop_succ_cons.{0})) (And.intro (@List.take_succ_cons.{0}) (@List.take_zero.{0}))) (And.intro (And.intro (@List.set_cons_zero.{0}) (@List.set_cons_succ.{0})) (And.intro (@Bool.and_true) (@Bool.true_and)))) (And.intro (And.intro (And.intro (@Bool.and_self) (@Bool.not_true)) (And.intro (@Bool.not_false) (@Bool.false_and))) (And.intro (And.intro (@Bool.and_false) (@ble_ok)) (And.intro (@blt_ok) (@beq_ok)))))):=And.intro (And.intro (And.intro (And.intro (And.intro (@List.toList_toArray.{0}) (@List.map_cons.{0,0})) (And.intro (@List.map_nil.{0,0}) (@List.length_cons.{0}))) (And.intro (And.intro (@List.length_nil.{0}) (@List.length_map.{0,0})) (And.intro (@List.getElem?_cons_zero.{0}) (@List.getElem?_cons_succ.{0})))) (And.intro (And.intro (And.intro (@List.getElem?_map.{0,0}) (@Option.map_some.{0,0})) (And.intro (@Option.map_none.{0,0}) (@List.nil_append.{0}))) (And.intro (And.intro (@List.cons_append.{0}) (@List.append_nil.{0})) (And.intro (@List.all_cons.{0}) (@List.all_nil.{0}))))) (And.intro (And.intro (And.intro (And.intro (@List.drop_zero.{0}) (@List.drop_succ_cons.{0})) (And.intro (@List.take_succ_cons.{0}) (@List.take_zero.{0}))) (And.intro (And.intro (@List.set_cons_zero.{0}) (@List.set_cons_succ.{0})) (And.intro (@Bool.and_true) (@Bool.true_and)))) (And.intro (And.intro (And.intro (@Bool.and_self) (@Bool.not_true)) (And.intro (@Bool.not_false) (@Bool.false_and))) (And.intro (And.intro (@Bool.and_false) (@ble_ok)) (And.intro (@blt_ok) (@beq_ok)))))
theorem b6:type_of% (And.intro (And.intro (And.intro (And.intro (And.intro (@Nat.beq_refl) (@Int.toNat_natCast)) (And.intro (@Nat.zero_add) (@Nat.add_zero))) (And.intro (And.intro (@Nat.mul_one) (@List.length_replicate.{0})) (And.intro (@ownD.eq_1) (@ownD.eq_2)))) (And.intro (And.intro (And.intro (@has.eq_1) (@has.eq_2)) (And.intro (@tLen.eq_1) (@tLoad.eq_1))) (And.intro (And.intro (@tLoad.eq_2) (@tStore.eq_1)) (And.intro (@partT.eq_1) (@tBox.eq_1))))) (And.intro (And.intro (And.intro (And.intro (@tAlloc.eq_1) (@zerosT.eq_1)) (And.intro (@zerosT.eq_2) (@zeroT.eq_1))) (And.intro (And.intro (@zeroT.eq_2) (@zeroT.eq_3)) (And.intro (@zeroT.eq_4) (@zeroT.eq_5)))) (And.intro (And.intro (And.intro (@zeroT.eq_6) (@zeroT.eq_7)) (And.intro (@tIndexAddr.eq_1) (@tIndex.eq_1))) (And.intro (And.intro (@tExtract.eq_1) (@tNilCheck.eq_1)) (And.intro (@tNilCheck.eq_2) (@tNilCheck.eq_3)))))):=And.intro (And.intro (And.intro (And.intro (And.intro (@Nat.beq_refl) (@Int.toNat_natCast)) (And.intro (@Nat.zero_add) (@Nat.add_zero))) (And.intro (And.intro (@Nat.mul_one) (@List.length_replicate.{0})) (And.intro (@ownD.eq_1) (@ownD.eq_2)))) (And.intro (And.intro (And.intro (@has.eq_1) (@has.eq_2)) (And.intro (@tLen.eq_1) (@tLoad.eq_1))) (And.intro (And.intro (@tLoad.eq_2) (@tStore.eq_1)) (And.intro (@partT.eq_1) (@tBox.eq_1))))) (And.intro (And.intro (And.intro (And.intro (@tAlloc.eq_1) (@zerosT.eq_1)) (And.intro (@zerosT.eq_2) (@zeroT.eq_1))) (And.intro (And.intro (@zeroT.eq_2) (@zeroT.eq_3)) (And.intro (@zeroT.eq_4) (@zeroT.eq_5)))) (And.intro (And.intro (And.intro (@zeroT.eq_6) (@zeroT.eq_7)) (And.intro (@tIndexAddr.eq_1) (@tIndex.eq_1))) (And.intro (And.intro (@tExtract.eq_1) (@tNilCheck.eq_1)) (And.intro (@tNilCheck.eq_2) (@tNilCheck.eq_3)))))
theorem b7:type_of% (And.intro (And.intro (And.intro (And.intro (And.intro (@tSlice.eq_1) (@tConvP.eq_1)) (And.intro (@TS.has.eq_1) (@tMakeSlice.eq_1))) (And.intro (And.intro (@aggT.eq_1) (@aggT.eq_2)) (And.intro (@aggT_i) (@aggT_b)))) (And.intro (And.intro (And.intro (@aggT_s) (@aggT_l)) (And.intro (@aggT_p) (@aggT_m))) (And.intro (And.intro (@T.cells.eq_1) (@T.one.eq_1)) (And.intro (@T.one.eq_2) (@T.one.eq_3))))) (And.intro (And.intro (And.intro (And.intro (@oneT_int) (@celT_int)) (And.intro (@oneT_bool) (@celT_bool))) (And.intro (And.intro (@oneT_str) (@celT_str)) (And.intro (@oneT_lst) (@celT_lst)))) (And.intro (And.intro (And.intro (@oneT_nils) (@celT_nils)) (And.intro (@oneT_nilp) (@celT_nilp))) (And.intro (And.intro (@oneT_nilm) (@celT_nilm)) (And.intro (@oneT_nilf) (@celT_nilf)))))):=And.intro (And.intro (And.intro (And.intro (And.intro (@tSlice.eq_1) (@tConvP.eq_1)) (And.intro (@TS.has.eq_1) (@tMakeSlice.eq_1))) (And.intro (And.intro (@aggT.eq_1) (@aggT.eq_2)) (And.intro (@aggT_i) (@aggT_b)))) (And.intro (And.intro (And.intro (@aggT_s) (@aggT_l)) (And.intro (@aggT_p) (@aggT_m))) (And.intro (And.intro (@T.cells.eq_1) (@T.one.eq_1)) (And.intro (@T.one.eq_2) (@T.one.eq_3))))) (And.intro (And.intro (And.intro (And.intro (@oneT_int) (@celT_int)) (And.intro (@oneT_bool) (@celT_bool))) (And.intro (And.intro (@oneT_str) (@celT_str)) (And.intro (@oneT_lst) (@celT_lst)))) (And.intro (And.intro (And.intro (@oneT_nils) (@celT_nils)) (And.intro (@oneT_nilp) (@celT_nilp))) (And.intro (And.intro (@oneT_nilm) (@celT_nilm)) (And.intro (@oneT_nilf) (@celT_nilf)))))
theorem b8:type_of% (And.intro (And.intro (And.intro (@oneT_ptr) (And.intro (@celT_ptr) (@oneT_cp))) (And.intro (@celT_cp) (And.intro (@oneT_arr) (@celT_arr)))) (And.intro (And.intro (@oneT_mp) (And.intro (@celT_mp) (@oneT_fn))) (And.intro (@celT_fn) (And.intro (@oneT_emp) (@celT_emp))))):=And.intro (And.intro (And.intro (@oneT_ptr) (And.intro (@celT_ptr) (@oneT_cp))) (And.intro (@celT_cp) (And.intro (@oneT_arr) (@celT_arr)))) (And.intro (And.intro (@oneT_mp) (And.intro (@celT_mp) (@oneT_fn))) (And.intro (@celT_fn) (And.intro (@oneT_emp) (@celT_emp))))
theorem apA:type_of% (And.intro (And.intro (And.intro (@tAppend.eq_1) (@blt_no)) (And.intro (@beq_no) (And.intro (@ble_no) (@Bool.or_false)))) (And.intro (And.intro (@Bool.or_self) (@List.flatMap_cons.{0,0})) (And.intro (@List.flatMap_nil.{0,0}) (And.intro (@Nat.add_mul) (@Nat.one_mul))))):=And.intro (And.intro (And.intro (@tAppend.eq_1) (@blt_no)) (And.intro (@beq_no) (And.intro (@ble_no) (@Bool.or_false)))) (And.intro (And.intro (@Bool.or_self) (@List.flatMap_cons.{0,0})) (And.intro (@List.flatMap_nil.{0,0}) (And.intro (@Nat.add_mul) (@Nat.one_mul))))
theorem apB:type_of% (And.intro (And.intro (@elemsT.eq_1) (@elemsT.eq_2)) (And.intro (@tBuildFrozen.eq_1) (And.intro (@sT_buildSlice) (@sP_buildSlice)))):=And.intro (And.intro (@elemsT.eq_1) (@elemsT.eq_2)) (And.intro (@tBuildFrozen.eq_1) (And.intro (@sT_buildSlice) (@sP_buildSlice)))
theorem lzA:type_of% (And.intro (@List.length_cons.{0}) (And.intro (@List.length_nil.{0}) (@Nat.zero_add))):=And.intro (@List.length_cons.{0}) (And.intro (@List.length_nil.{0}) (@Nat.zero_add))
end Go.Proofs.YtcgdomhednbdpaaDoor
namespace Go.Proofs.YtcgdomhednbdpaaDoor
open Go Go.RowKit
mutual
def T.ren (ρ:Nat→Nat):T→T
 |.agg l=>.agg (T.renL ρ l)
 |.tup l=>.tup (T.renL ρ l)
 |.lst e l=>.lst e (T.renL ρ l)
 |.cp l=>.cp (T.renL ρ l)
 |.ptr b o N=>.ptr (ρ b) o N
 |.arr b e o l c N=>.arr (ρ b) e o l c N
 |.mp b=>.mp (ρ b)
 |.fn f a c=>.fn f (T.renL ρ a) (T.renL ρ c)
 |.int k n=>.int k n
 |.bool b=>.bool b
 |.str b=>.str b
 |.nils=>.nils
 |.nilp=>.nilp
 |.nilm=>.nilm
 |.nilf=>.nilf
 |.junk=>.junk
 |.emp e=>.emp e
def T.renL (ρ:Nat→Nat):List T→List T
 |[]=>[]
 |t :: l=>t.ren ρ :: T.renL ρ l
end
def renBox (ρ:Nat→Nat):Box→Box
 |.gone=>.gone
 |.cells z N l=>.cells z N (T.renL ρ l)
 |.map l=>.map (l.map fun p=>(p.1.ren ρ,p.2.ren ρ))
section
variable {GL:List (Nat×List Value)} {A A' A1:Nat→Prop} {β β' β0 β1:Bx} {S S' S0 S1:TS} {s s' s1:CS} {P:Program} {Γ:Env} {g g':Nat→Fam} {ρ:Nat→Nat} {n:Nat}
theorem renL_map:∀ (l:List T),T.renL ρ l=l.map (T.ren ρ)
 |[]=>rfl
 |t :: l=>by rw [T.renL,List.map_cons,renL_map l]
theorem renL_len (l:List T):(T.renL ρ l).length=l.length:=by rw [renL_map,List.length_map]
theorem renL_append (l m:List T):T.renL ρ (l++m)=T.renL ρ l++T.renL ρ m:=by simp only [renL_map,List.map_append]
theorem ren_cells (t:T):(t.ren ρ).cells=T.renL ρ t.cells:=by
 cases t<;>simp only [T.ren,T.cells,T.renL]
theorem ren_flat:∀ (l:List T),(T.renL ρ l).flatMap T.cells=T.renL ρ (l.flatMap T.cells)
 |[]=>rfl
 |t :: l=>by rw [T.renL,List.flatMap_cons,List.flatMap_cons,ren_cells,ren_flat l,renL_append]
theorem idsL_of:∀ {l:List T},T.idsL n l=true→∀ t,t∈l→t.ids n=true
 |[],_,t,h=>by simp at h
 |x :: l,h,t,ht=>by
  simp only [T.idsL,Bool.and_eq_true] at h
  rcases List.mem_cons.1 ht with rfl|ht
  ·exact h.1
  ·exact idsL_of h.2 t ht
mutual
theorem VT.up (hβ:∀ b,b<n→β' (ρ b)=β b):∀ {t:T} {v:Value},t.ids n=true→VT A β g t v→VT A β' g (t.ren ρ) v
 |_,_,_,.int k n=>.int k n
 |_,_,_,.bool b=>.bool b
 |_,_,_,.str b=>.str b
 |_,_,hi,.agg h=>.agg (VL.up hβ hi h)
 |_,_,hi,.tup h=>.tup (VL.up hβ hi h)
 |_,_,_,.lnil=>.lnil
 |.lst e l,_,hi,.lst h1 h2 h3 h4 h5 h6 h7 h8=>by
  have q:=VL.up hβ (idsL_cells hi) h3
  rw [← ren_flat] at q
  have:=VT.lst (l:=T.renL ρ l) h1 h2 q (fun t ht=>by rw [renL_map] at ht;obtain ⟨x,hx,rfl⟩:=List.mem_map.1 ht;rw [ren_cells,renL_len];exact h4 x hx) h5 h6 h7 (by rw [renL_len];exact h8)
  rw [renL_len] at this
  exact this
 |_,_,_,.nils=>.nils
 |_,_,_,.nilp=>.nilp
 |_,_,_,.nilm=>.nilm
 |_,_,_,.nilf=>.nilf
 |_,_,hi,.ptr h=>.ptr (by rw [hβ _ (blt_iff.1 hi)];exact h)
 |_,_,hi,.ptrOld h h0 h1 h2=>.ptrOld (by rw [hβ _ (blt_iff.1 hi)];exact h) h0 h1 h2
 |_,_,hi,.cp h1 h2 h3 h4=>.cp h1 h2 (VL.up hβ hi h3) h4
 |_,_,hi,.arr h ht=>.arr (by rw [hβ _ (blt_iff.1 hi)];exact h) ht
 |_,_,hi,.arrNil h=>.arrNil (by rw [hβ _ (blt_iff.1 hi)];exact h)
 |_,_,hi,.arrOld h h0 h1 h2=>.arrOld (by rw [hβ _ (blt_iff.1 hi)];exact h) h0 h1 h2
 |_,_,hi,.mp h=>.mp (by rw [hβ _ (blt_iff.1 hi)];exact h)
 |_,_,hi,.mpOld h h2=>.mpOld (by rw [hβ _ (blt_iff.1 hi)];exact h) h2
 |_,_,hi,.fn h1 h2=>by
  simp only [T.ids,Bool.and_eq_true] at hi
  exact .fn (VL.up hβ hi.1 h1) (VL.up hβ hi.2 h2)
 |_,_,_,.junk v=>.junk v
 |_,_,_,.emp h1 h2 h3 h4=>.emp h1 h2 h3 h4
theorem VL.up (hβ:∀ b,b<n→β' (ρ b)=β b):∀ {l:List T} {vs:List Value},T.idsL n l=true→VL A β g l vs→VL A β' g (T.renL ρ l) vs
 |_,_,_,.nil=>.nil
 |_,_,hi,.cons h k=>by
  simp only [T.idsL,Bool.and_eq_true] at hi
  exact .cons (VT.up hβ hi.1 h) (VL.up hβ hi.2 k)
end
mutual
theorem VT.down (hβ:∀ b,b<n→β' b=β (ρ b)):∀ {t':T} {v:Value},VT A β g t' v→∀ {t:T},t.ren ρ=t'→t.ids n=true→VT A β' g t v
 |_,_,.int k m,t,e,hi=>by
  cases t<;>simp [T.ren] at e
  obtain ⟨rfl,rfl⟩:=e
  exact .int _ _
 |_,_,.bool b,t,e,hi=>by
  cases t<;>simp [T.ren] at e
  subst e
  exact .bool _
 |_,_,.str b,t,e,hi=>by
  cases t<;>simp [T.ren] at e
  subst e
  exact .str _
 |_,_,.agg h,t,e,hi=>by
  cases t<;>simp [T.ren] at e
  exact .agg (VL.down hβ h e hi)
 |_,_,.tup h,t,e,hi=>by
  cases t<;>simp [T.ren] at e
  exact .tup (VL.down hβ h e hi)
 |_,_,.lnil,t,e,hi=>by
  cases t<;>simp [T.ren] at e
  rename_i e' l
  obtain ⟨rfl,e⟩:=e
  cases l with
  |nil=>exact .lnil
  |cons x l=>simp [T.renL] at e
 |_,_,.lst (l:=l') h1 h2 h3 h4 h5 h6 h7 h8,t,e,hi=>by
  cases t<;>simp [T.ren] at e
  rename_i e' l
  have q:=VL.down hβ h3 (l:=l.flatMap T.cells) (by rw [← e.2];exact (ren_flat l).symm) (idsL_cells hi)
  obtain ⟨rfl,rfl⟩:=e
  have:=VT.lst (l:=l) h1 h2 q (fun t ht=>by have:=h4 (t.ren ρ) (by rw [renL_map];exact List.mem_map_of_mem ht);rw [ren_cells,renL_len] at this;exact this) h5 h6 h7 (by rw [renL_len] at h8;exact h8)
  rw [renL_len]
  exact this
 |_,_,.nils,t,e,hi=>by cases t<;>simp [T.ren] at e;exact .nils
 |_,_,.nilp,t,e,hi=>by cases t<;>simp [T.ren] at e;exact .nilp
 |_,_,.nilm,t,e,hi=>by cases t<;>simp [T.ren] at e;exact .nilm
 |_,_,.nilf,t,e,hi=>by cases t<;>simp [T.ren] at e;exact .nilf
 |_,_,.ptr h,t,e,hi=>by
  cases t<;>simp [T.ren] at e
  obtain ⟨rfl,rfl,rfl⟩:=e
  exact .ptr (by rw [hβ _ (blt_iff.1 hi)];exact h)
 |_,_,.ptrOld h h0 h1 h2,t,e,hi=>by
  cases t<;>simp [T.ren] at e
  obtain ⟨rfl,rfl,rfl⟩:=e
  exact .ptrOld (by rw [hβ _ (blt_iff.1 hi)];exact h) h0 h1 h2
 |_,_,.cp h1 h2 h3 h4,t,e,hi=>by
  cases t<;>simp [T.ren] at e
  exact .cp h1 h2 (VL.down hβ h3 e hi) h4
 |_,_,.arr h ht,t,e,hi=>by
  cases t<;>simp [T.ren] at e
  obtain ⟨rfl,rfl,rfl,rfl,rfl,rfl⟩:=e
  exact .arr (by rw [hβ _ (blt_iff.1 hi)];exact h) ht
 |_,_,.arrNil h,t,e,hi=>by
  cases t<;>simp [T.ren] at e
  obtain ⟨rfl,rfl,rfl,rfl,rfl,rfl⟩:=e
  exact .arrNil (by rw [hβ _ (blt_iff.1 hi)];exact h)
 |_,_,.arrOld h h0 h1 h2,t,e,hi=>by
  cases t<;>simp [T.ren] at e
  obtain ⟨rfl,rfl,rfl,rfl,rfl,rfl⟩:=e
  exact .arrOld (by rw [hβ _ (blt_iff.1 hi)];exact h) h0 h1 h2
 |_,_,.mp h,t,e,hi=>by
  cases t<;>simp [T.ren] at e
  subst e
  exact .mp (by rw [hβ _ (blt_iff.1 hi)];exact h)
 |_,_,.mpOld h h2,t,e,hi=>by
  cases t<;>simp [T.ren] at e
  subst e
  exact .mpOld (by rw [hβ _ (blt_iff.1 hi)];exact h) h2
 |_,_,.fn h1 h2,t,e,hi=>by
  cases t<;>simp [T.ren] at e
  obtain ⟨rfl,e1,e2⟩:=e
  simp only [T.ids,Bool.and_eq_true] at hi
  exact .fn (VL.down hβ h1 e1 hi.1) (VL.down hβ h2 e2 hi.2)
 |_,_,.junk v,t,e,hi=>by cases t<;>simp [T.ren] at e;exact .junk _
 |_,_,.emp h1 h2 h3 h4,t,e,hi=>by
  cases t<;>simp [T.ren] at e
  subst e
  exact .emp h1 h2 h3 h4
theorem VL.down (hβ:∀ b,b<n→β' b=β (ρ b)):∀ {l':List T} {vs:List Value},VL A β g l' vs→∀ {l:List T},T.renL ρ l=l'→T.idsL n l=true→VL A β' g l vs
 |_,_,.nil,l,e,hi=>by
  cases l with
  |nil=>exact .nil
  |cons x l=>simp [T.renL] at e
 |_,_,.cons h k,l,e,hi=>by
  cases l with
  |nil=>simp [T.renL] at e
  |cons x l =>
   simp only [T.renL,List.cons.injEq] at e
   simp only [T.idsL,Bool.and_eq_true] at hi
   exact .cons (VT.down hβ h e.1 hi.1) (VL.down hβ k e.2 hi.2)
end
structure Fits (ρ:Nat→Nat) (S0 S1 S S':TS):Prop where
 le:S0.n≤S1.n
 out:∀ b,S0.n≤b→S0.box b=.gone
 old:∀ i,i<S0.n→ρ i<S.n
 new:∀ i,S0.n≤i→i<S1.n→S.n≤ρ i
 top:∀ i,i<S1.n→ρ i<S'.n
 grow:S.n≤S'.n
 inj:∀ i j,i<S1.n→j<S1.n→ρ i=ρ j→i=j
 pre:∀ i,i<S0.n→S.box (ρ i)=renBox ρ (S0.box i)∧boxIds S0.n (S0.box i)=true
 post:∀ i,i<S1.n→S'.box (ρ i)=renBox ρ (S1.box i)∧boxIds S1.n (S1.box i)=true
 rest:∀ b,(∀ i,i<S1.n→ρ i≠b)→S'.box b=S.box b
open Classical in
noncomputable def bmix (ρ:Nat→Nat) (m:Nat) (β1 β:Bx):Bx:=fun b=>if h:∃ i,i<m∧ρ i=b then β1 (Classical.choose h) else β b
theorem bmix_in {m i:Nat} (hinj:∀ i j,i<m→j<m→ρ i=ρ j→i=j) (hi:i<m):bmix ρ m β1 β (ρ i)=β1 i:=by
 unfold bmix
 have h:∃ j,j<m∧ρ j=ρ i:=⟨i,hi,rfl⟩
 rw [dif_pos h]
 have:=Classical.choose_spec h
 rw [hinj _ _ this.1 hi this.2]
theorem bmix_out {m b:Nat} (h:∀ i,i<m→ρ i≠b):bmix ρ m β1 β b=β b:=by
 unfold bmix
 rw [dif_neg (fun ⟨i,h1,h2⟩=>h i h1 h2)]
theorem rmap_fst (l:List (T×T)):(l.map fun p=>(p.1.ren ρ,p.2.ren ρ)).map (·.1)=T.renL ρ (l.map (·.1)):=by
 rw [renL_map,List.map_map,List.map_map];rfl
theorem rmap_snd (l:List (T×T)):(l.map fun p=>(p.1.ren ρ,p.2.ren ρ)).map (·.2)=T.renL ρ (l.map (·.2)):=by
 rw [renL_map,List.map_map,List.map_map];rfl
theorem Call.frame {f:FuncId} {args:List T} {v:T} (k:Call P Γ GL f args S0 v S1) (ha:T.idsL S0.n args=true) (hv:v.ids S1.n=true) (F:Fits ρ S0 S1 S S'):Call P Γ GL f (T.renL ρ args) S (v.ren ρ) S':=by
 intro A β s vargs hT hva
 have hb0:∀ b,b<S0.n→bcut (fun i=>β (ρ i)) S0.n b=β (ρ b):=fun b hb=>if_pos hb
 have hb1:∀ b l,bcut (fun i=>β (ρ i)) S0.n b=some l→b<S0.n∧β (ρ b)=some l:=fun b l h=>by
  unfold bcut at h
  split at h
  ·rename_i hb;exact ⟨hb,h⟩
  ·simp at h
 have hown:∀ f,Own (bcut (fun i=>β (ρ i)) S0.n) f→∃ i,i<S0.n∧((∃ u N,β (ρ i)=some (.live f u N))∨β (ρ i)=some (.map f)):=fun f ⟨b,hb⟩=>by
  rcases hb with ⟨u,N,hb⟩|hb
  ·exact ⟨b,(hb1 _ _ hb).1,.inl ⟨u,N,(hb1 _ _ hb).2⟩⟩
  ·exact ⟨b,(hb1 _ _ hb).1,.inr (hb1 _ _ hb).2⟩
 have hown2:∀ f,Own (bcut (fun i=>β (ρ i)) S0.n) f→Own β f:=fun f hf=>by
  obtain ⟨i,_,h⟩:=hown f hf
  exact ⟨ρ i,h⟩
 have hT0:TRel GL A (bcut (fun i=>β (ρ i)) S0.n) S0 s:=by
  refine ⟨hT.inr,hT.inv,hT.alt,fun f hf=>hT.dis f (hown2 f hf),fun b b' l l' f h1 h2 h3 h4=>?_,fun b hb=>if_neg (by omega),fun b z N l hb=>?_,fun b l hb=>?_,hT.glob⟩
  ·obtain ⟨q1,q2⟩:=hb1 _ _ h1
   obtain ⟨q3,q4⟩:=hb1 _ _ h2
   exact F.inj b b' (by have:=F.le;omega) (by have:=F.le;omega) (hT.inj _ _ _ _ f q2 q4 h3 h4)
  ·have hlt:b<S0.n:=by
    by_cases h:b<S0.n
    ·exact h
    ·rw [F.out b (by omega)] at hb;simp at hb
   obtain ⟨p1,p2⟩:=F.pre b hlt
   rw [hb] at p1 p2
   obtain ⟨c1,c2⟩:=hT.cells _ _ _ _ p1
   refine ⟨by rw [renL_len] at c1;exact c1,?_⟩
   rcases c2 with ⟨d1,d2,d3⟩|⟨f,u,cs,rest,d1,d2,d3,d4,d5⟩
   ·exact .inl ⟨by rw [hb0 b hlt];exact d1,d2,d3⟩
   ·exact .inr ⟨f,u,cs,rest,by rw [hb0 b hlt];exact d1,d2,d3,VL.down hb0 d4 rfl p2,d5⟩
  ·have hlt:b<S0.n:=by
    by_cases h:b<S0.n
    ·exact h
    ·rw [F.out b (by omega)] at hb;simp at hb
   obtain ⟨p1,p2⟩:=F.pre b hlt
   rw [hb] at p1 p2
   obtain ⟨r,es,c1,c2,c3,c4⟩:=hT.maps _ _ p1
   simp only [boxIds,Bool.and_eq_true] at p2
   rw [rmap_fst] at c3
   rw [rmap_snd] at c4
   exact ⟨r,es,by rw [hb0 b hlt];exact c1,c2,VL.down hb0 c3 rfl p2.1,VL.down hb0 c4 rfl p2.2⟩
 obtain ⟨w,s1,A1,β1,e1,e2,e3,e4⟩:=k A _ s vargs hT0 (VL.down hb0 hva rfl ha)
 have hin:∀ i,i<S1.n→bmix ρ S1.n β1 β (ρ i)=β1 i:=fun i hi=>bmix_in F.inj hi
 have hcase:∀ b,(∃ i,i<S1.n∧ρ i=b)∨(∀ i,i<S1.n→ρ i≠b):=fun b=>by
  by_cases h:∃ i,i<S1.n∧ρ i=b
  ·exact .inl h
  ·exact .inr fun i hi hh=>h ⟨i,hi,hh⟩
 have hone:∀ i l,β1 i=some l→i<S1.n:=fun i l h=>by
  by_cases hh:i<S1.n
  ·exact hh
  ·rw [e2.next i (by omega)] at h;simp at h
 have apart:∀ b f,(∀ i,i<S1.n→ρ i≠b)→((∃ u N,β b=some (.live f u N))∨β b=some (.map f))→¬ Own (bcut (fun i=>β (ρ i)) S0.n) f:=fun b f hb hf ho=>by
  obtain ⟨j,hj,h⟩:=hown f ho
  have:ρ j=b:=by
   rcases h with ⟨u,N,h⟩|h<;>rcases hf with ⟨u',N',hf⟩|hf<;>exact hT.inj _ _ _ _ f h hf rfl rfl
  exact hb j (by have:=F.le;omega) this
 have hfamO:∀ b l f,β b=some l→l.fam=some f→((∃ u N,β b=some (.live f u N))∨β b=some (.map f)):=fun b l f h hl=>by
  cases l with
  |live f' u N=>simp [Loc.fam] at hl;subst hl;exact .inl ⟨u,N,h⟩
  |map r=>simp [Loc.fam] at hl;subst hl;exact .inr h
  |nil=>simp [Loc.fam] at hl
  |dead=>simp [Loc.fam] at hl
 have hfam1:∀ i l f,β1 i=some l→l.fam=some f→Own β1 f:=fun i l f h hl=>by
  cases l with
  |live f' u N=>simp [Loc.fam] at hl;subst hl;exact own_live h
  |map r=>simp [Loc.fam] at hl;subst hl;exact own_map h
  |nil=>simp [Loc.fam] at hl
  |dead=>simp [Loc.fam] at hl
 have hle:Bx.le β (bmix ρ S1.n β1 β):=fun b l hb=>by
  rcases hcase b with ⟨i,hi,rfl⟩|h
  ·rw [hin i hi]
   by_cases hip:i<S0.n
   ·exact e4.bx i l (by rw [hb0 i hip];exact hb)
   ·rw [hT.next _ (F.new i (by omega) hi)] at hb;simp at hb
  ·exact ⟨l,by rw [bmix_out h];exact hb,Loc.le_refl l⟩
 have hkeep:∀ f,A f→objAt s1.obj f=objAt s.obj f:=fun f hf=>e4.keep f (hT.alt f hf) fun ho=>(hT.dis f (hown2 f ho)).2 hf
 have hmix:∀ f,Own (bmix ρ S1.n β1 β) f→Own β1 f∨∃ b,(∀ i,i<S1.n→ρ i≠b)∧((∃ u N,β b=some (.live f u N))∨β b=some (.map f)):=fun f ⟨b,hb⟩=>by
  rcases hcase b with ⟨i,hi,rfl⟩|h
  ·rw [hin i hi] at hb;exact .inl ⟨i,hb⟩
  ·rw [bmix_out h] at hb;exact .inr ⟨b,h,hb⟩
 refine ⟨w,s1,A1,bmix ρ S1.n β1 β,e1,⟨e2.inr,e2.inv,e2.alt,fun f hf=>?_,fun b b' l l' f h1 h2 h3 h4=>?_,fun b hb=>?_,fun b z N l hb=>?_,fun b l hb=>?_,e2.glob⟩,VT.up hin hv e3,⟨e4.can,e4.sub,fun f hf=>(e4.new f hf).imp id (Or.imp id (hown2 f)),fun f hf=>?_,fun f hf ho=>e4.keep f hf fun h=>ho (hown2 f h),hle,fun x hx=>(e4.rd x hx).imp id (fun ⟨a,b⟩=>⟨a,b.imp id (hown2 x)⟩),fun x hx=>(e4.wr x hx).imp id (fun ⟨a,b⟩=>⟨a,hown2 x b⟩)⟩⟩
 ·rcases hmix f hf with h|⟨b,hb,h⟩
  ·exact e2.dis f h
  ·have hd:=hT.dis f ⟨b,h⟩
   refine ⟨Nat.lt_of_lt_of_le hd.1 e4.can.n,fun hA=>?_⟩
   rcases e4.new f hA with q|q|q
   ·exact hd.2 q
   ·have:=hd.1;omega
   ·exact apart b f hb h q
 ·have mixed:∀ i b l l',i<S1.n→(∀ i,i<S1.n→ρ i≠b)→β1 i=some l→β b=some l'→l.fam=some f→l'.fam=some f→False:=fun i b l l' hi hb q1 q2 q3 q4=>by
   have ho:=hfamO b l' f q2 q4
   rcases e4.own f (hfam1 i l f q1 q3) with q|q
   ·exact apart b f hb ho q
   ·have:=(hT.dis f ⟨b,ho⟩).1;omega
  rcases hcase b with ⟨i,hi,rfl⟩|hb<;>rcases hcase b' with ⟨j,hj,rfl⟩|hb'
  ·rw [hin i hi] at h1
   rw [hin j hj] at h2
   rw [e2.inj i j l l' f h1 h2 h3 h4]
  ·rw [hin i hi] at h1
   rw [bmix_out hb'] at h2
   exact (mixed i b' l l' hi hb' h1 h2 h3 h4).elim
  ·rw [bmix_out hb] at h1
   rw [hin j hj] at h2
   exact (mixed j b l' l hj hb h2 h1 h4 h3).elim
  ·rw [bmix_out hb] at h1
   rw [bmix_out hb'] at h2
   exact hT.inj b b' l l' f h1 h2 h3 h4
 ·rw [bmix_out (fun i hi hh=>by have:=F.top i hi;omega)]
  exact hT.next b (by have:=F.grow;omega)
 ·rcases hcase b with ⟨i,hi,rfl⟩|hbo
  ·obtain ⟨p1,p2⟩:=F.post i hi
   rw [hb] at p1
   cases hq:S1.box i with
   |gone=>rw [hq] at p1;simp [renBox] at p1
   |map m=>rw [hq] at p1;simp [renBox] at p1
   |cells z' N' l' =>
    rw [hq] at p1 p2
    simp only [renBox,Box.cells.injEq] at p1
    obtain ⟨rfl,rfl,rfl⟩:=p1
    obtain ⟨c1,c2⟩:=e2.cells _ _ _ _ hq
    refine ⟨by rw [renL_len];exact c1,?_⟩
    rcases c2 with ⟨d1,d2,d3⟩|⟨f,u,cs,rest,d1,d2,d3,d4,d5⟩
    ·exact .inl ⟨by rw [hin i hi];exact d1,d2,d3⟩
    ·exact .inr ⟨f,u,cs,rest,by rw [hin i hi];exact d1,d2,d3,VL.up hin p2 d4,d5⟩
  ·rw [F.rest b hbo] at hb
   refine (hT.cells b z N l hb).mono e4.sub hkeep hle (bmix_out hbo) fun f u N' hl=>?_
   exact e4.keep f (hT.dis f (own_live hl)).1 (apart b f hbo (.inl ⟨u,N',hl⟩))
 ·rcases hcase b with ⟨i,hi,rfl⟩|hbo
  ·obtain ⟨p1,p2⟩:=F.post i hi
   rw [hb] at p1
   cases hq:S1.box i with
   |gone=>rw [hq] at p1;simp [renBox] at p1
   |cells z N m=>rw [hq] at p1;simp [renBox] at p1
   |map m =>
    rw [hq] at p1 p2
    simp only [renBox,Box.map.injEq] at p1
    subst p1
    obtain ⟨r,es,c1,c2,c3,c4⟩:=e2.maps _ _ hq
    simp only [boxIds,Bool.and_eq_true] at p2
    exact ⟨r,es,by rw [hin i hi];exact c1,c2,by rw [rmap_fst];exact VL.up hin p2.1 c3,by rw [rmap_snd];exact VL.up hin p2.2 c4⟩
  ·rw [F.rest b hbo] at hb
   refine (hT.maps b l hb).mono e4.sub hkeep hle (bmix_out hbo) fun r hl=>?_
   exact e4.keep r (hT.dis r (own_map hl)).1 (apart b r hbo (.inr hl))
 ·rcases hmix f hf with h|⟨b,hb,h⟩
  ·exact (e4.own f h).imp (hown2 f) id
  ·exact .inl ⟨b,h⟩
end
end Go.Proofs.YtcgdomhednbdpaaDoor
namespace Go.Proofs.YtcgdomhednbdpaaDoor
open Go Go.RowKit
theorem bsome {α β:Type} {x:Option α} {f:α→Option β} {v:β} (h:x.bind f=some v):∃ a,x=some a∧f a=some v:=by
 cases x with
 |none=>cases h
 |some a=>exact ⟨a,rfl,h⟩
def gx {α:Type} [Inhabited α] (l:List α) (i:Int):α:=l.getD i.toNat default
theorem gx_some {α:Type} [Inhabited α] {l:List α} {i:Int} (h:0≤i∧i<(l.length:Int)):l[i.toNat]?=some (gx l i):=get_some (by omega)
def bx (b:ByteArray) (i:Int):UInt8:=b.data.toList.getD i.toNat 0
def vecC {α:Type} (f:α→T) (l:List α):List T:=(l.map f).flatMap T.cells
theorem vecC_append {α:Type} {f:α→T} {l l2:List α}:vecC f (l++l2)=vecC f l++vecC f l2:=by
 unfold vecC;rw [List.map_append,List.flatMap_append]
theorem vecC_len {α:Type} {f:α→T} {e:Nat} (h:∀ x,(f x).cells.length=e):∀ (l:List α),(vecC f l).length=l.length*e
 |[]=>by simp [vecC]
 |x :: l=>by
  have ih:=vecC_len h l
  unfold vecC at ih ⊢
  rw [List.map_cons,List.flatMap_cons,List.length_append,h,ih,List.length_cons,Nat.add_mul];omega
theorem vecC_take {α:Type} {f:α→T} {e n:Nat} {l:List α} (h:∀ x,(f x).cells.length=e) (hl:l.length=n):(vecC f l).take (n*e)=(l.map f).flatMap T.cells:=by
 have:=vecC_len h l
 rw [List.take_of_length_le (by rw [this,hl];exact Nat.le_refl _)];rfl
theorem cm_int {k:IntKind} {l:List Int}:(l.map (T.int k)).flatMap T.cells=l.map (T.int k):=cells_map fun _=>rfl
theorem cm_bool {l:List Bool}:(l.map T.bool).flatMap T.cells=l.map T.bool:=cells_map fun _=>rfl
theorem cm_str {l:List ByteArray}:(l.map T.str).flatMap T.cells=l.map T.str:=cells_map fun _=>rfl
theorem am_int {k:IntKind} {l:List Int}:(l.map (T.int k)).all T.one=true:=by simp [T.one]
theorem am_bool {l:List Bool}:(l.map T.bool).all T.one=true:=by simp [T.one]
theorem am_str {l:List ByteArray}:(l.map T.str).all T.one=true:=by simp [T.one]
section
variable {GL:List (Nat×List Value)} {A A' A2:Nat→Prop} {β β' β2:Bx} {S S' S2:TS} {s s' s2:CS} {P:Program} {Γ:Env} {N:Nat} {h h' h2:Nat→T} {Q R:Exit→(Nat→T)→TS→Prop}
theorem Left.trimN {fr fr':Fr} {keep:List Nat} {bs bs2 extra:List Box} {n:Nat} (hn:bs.length≤n) (hT:TRel GL A β (stL bs) s) (k:Left GL A β s N fr' s' h' (stL (bs2++extra))) (hl:bs2.length=n) (hb:boxesIds n bs2=true) (hk:keepIds keep n h'):Left GL A β s N fr' s' (keepT keep h') (stL bs2):=by
 obtain ⟨A',β',k1,k2,k3⟩:=k
 have hat:∀ b,b<n→bcut β' n b=β' b:=fun b hb=>if_pos hb
 have hsub:∀ b l,bcut β' n b=some l→β' b=some l:=fun b l h=>by
  unfold bcut at h
  split at h
  ·exact h
  ·simp at h
 have hkp:Keeps (stL (bs2++extra)) (stL bs2):=by
  refine ⟨by simp [stL],fun b=>?_⟩
  by_cases hbl:b<bs2.length
  ·refine .inr ⟨hbl,?_,?_⟩
   ·show bs2.getD b .gone=(bs2++extra).getD b .gone
    rw [List.getD_eq_getElem?_getD,List.getD_eq_getElem?_getD,List.getElem?_append_left hbl]
   ·show boxIds bs2.length ((bs2++extra).getD b .gone)=true
    rw [List.getD_eq_getElem?_getD,List.getElem?_append_left hbl,← List.getD_eq_getElem?_getD,hl]
    exact boxesIds_get hb
  ·left
   show bs2.getD b .gone=.gone
   rw [List.getD_eq_getElem?_getD,List.getElem?_eq_none (by omega)];rfl
 have hcut:=k2.cut hkp
 have hnn:(stL bs2).n=n:=hl
 rw [hnn] at hcut
 refine ⟨A',bcut β' n,⟨k1.nt,k1.le,fun t=>?_⟩,hcut,k3.can,k3.sub,k3.new,fun f hf=>?_,k3.keep,fun b l hb'=>?_,k3.rd,k3.wr⟩
 ·by_cases ht:t∈keep
  ·rw [keepT_at ht];exact (k1.slot t).ids hat (keepIds_mem hk t ht)
  ·rw [show keepT keep h' t=.junk from if_neg ht];exact .junk _
 ·obtain ⟨b,hb'⟩:=hf
  exact k3.own f ⟨b,hb'.imp (fun ⟨u,N,h⟩=>⟨u,N,hsub _ _ h⟩) fun h=>hsub _ _ h⟩
 ·obtain ⟨l',c1,c2⟩:=k3.bx b l hb'
  have:b<bs.length:=by
   by_cases hh:b<bs.length
   ·exact hh
   ·rw [hT.next b (by show bs.length≤b;omega)] at hb';simp at hb'
  exact ⟨l',by rw [hat b (by omega)];exact c1,c2⟩
theorem TW.cutN {a:Code} (keep:List Nat) (n:Nat) {bs:List Box} (hn:bs.length≤n) (R:(Nat→T)→List Box→Prop) (hR:TW P Γ GL N a h (stL bs) (onT (fun h' S'=>Ends keep n R h' S') Q)) (hk:∀ h bs2,R h bs2→Q .normal h (stL bs2)):TW P Γ GL N a h (stL bs) Q:=by
 intro A β fr s hF hT
 obtain ⟨e,fr1,s1,h1,h',S',hleft,hq⟩:=hR A β fr s hF hT
 cases e with
 |normal =>
  obtain ⟨bs',rfl,hl,hbi,hki,hq⟩:=hq
  exact ⟨_,fr1,s1,h1,_,_,Left.trimN (fr:=fr) (keep:=keep) (bs2:=bs'.take n) (extra:=bs'.drop n) hn hT (by rw [List.take_append_drop];exact hleft) (by rw [List.length_take];omega) hbi hki,hk _ _ hq⟩
 |_=>exact ⟨_,fr1,s1,h1,h',S',hleft,hq⟩
theorem TW.unz {c:Code} (b:Nat) {zz:Bool} {M:Nat} {l:List T} (hS:S.box b=.cells zz M l) (k:TW P Γ GL N c h (S.set b (.cells false M l)) Q):TW P Γ GL N c h S Q:=by
 intro A β fr s hF hT
 have hb:∀ b' z N l',(S.set b (.cells false M l)).box b'=.cells z N l'→∃ z0,S.box b'=.cells z0 N l'∧(z=true→z0=true):=fun b' z N l' h=>by
  by_cases hi:b'=b
  ·subst hi;rw [TS.set_same] at h;cases h;exact ⟨zz,hS,fun h=>by cases h⟩
  ·rw [TS.set_ne _ _ hi] at h;exact ⟨z,h,id⟩
 refine k A β fr s hF ⟨hT.inr,hT.inv,hT.alt,hT.dis,hT.inj,hT.next,fun b' z N l' h=>?_,fun b' l' h=>?_,hT.glob⟩
 ·obtain ⟨z0,h0,hz⟩:=hb b' z N l' h
  obtain ⟨h1,h2⟩:=hT.cells b' z0 N l' h0
  refine ⟨h1,?_⟩
  rcases h2 with ⟨q1,q2,q3⟩|⟨f,u,cs,rest,q1,q2,q3⟩
  ·exact .inl ⟨q1,q2,by cases z with|false=>rfl|true=>rw [hz rfl] at q3;exact q3⟩
  ·exact .inr ⟨f,u,cs,rest,q1,fun h=>q2 (hz h),q3⟩
 ·by_cases hi:b'=b
  ·subst hi;rw [TS.set_same] at h;cases h
  ·rw [TS.set_ne _ _ hi] at h;exact hT.maps b' l' h
theorem TW.slot {c:Code} (t:Nat) {v v':T} (ht:h t=v) (hv:∀ A β (g:Nat→Fam) w,VT A β g v w→VT A β g v' w) (k:TW P Γ GL N c (tupd h t v') S Q):TW P Γ GL N c h S Q:=by
 intro A β fr s hF hT
 have hF':FrOk A β (objAt s.obj) N (tupd h t v') fr:=⟨hF.nt,hF.le,fun u=>by
  by_cases hu:u=t
  ·subst hu
   rw [tupd_same]
   have:=hF.slot u
   rw [ht] at this
   exact hv _ _ _ _ this
  ·rw [tupd_ne _ _ _ _ hu];exact hF.slot u⟩
 exact k A β fr s hF' hT
mutual
theorem ids_more {n m:Nat} (hnm:n≤m):∀ {t:T},t.ids n=true→t.ids m=true
 |.agg l,h=>idsL_more hnm (l:=l) h
 |.tup l,h=>idsL_more hnm (l:=l) h
 |.lst e l,h=>idsL_more hnm (l:=l) h
 |.cp l,h=>idsL_more hnm (l:=l) h
 |.ptr b o N,h=>by simp only [T.ids] at h ⊢;exact blt_iff.2 (by have:=blt_iff.1 h;omega)
 |.arr b e o l c N,h=>by simp only [T.ids] at h ⊢;exact blt_iff.2 (by have:=blt_iff.1 h;omega)
 |.mp b,h=>by simp only [T.ids] at h ⊢;exact blt_iff.2 (by have:=blt_iff.1 h;omega)
 |.fn f a c,h=>by
  simp only [T.ids,Bool.and_eq_true] at h ⊢
  exact ⟨idsL_more hnm h.1,idsL_more hnm h.2⟩
 |.int _ _,_=>rfl
 |.bool _,_=>rfl
 |.str _,_=>rfl
 |.nils,_=>rfl
 |.nilp,_=>rfl
 |.nilm,_=>rfl
 |.nilf,_=>rfl
 |.junk,_=>rfl
 |.emp _,_=>rfl
theorem idsL_more {n m:Nat} (hnm:n≤m):∀ {l:List T},T.idsL n l=true→T.idsL m l=true
 |[],_=>rfl
 |t :: l,h=>by
  simp only [T.idsL,Bool.and_eq_true] at h ⊢
  exact ⟨ids_more hnm h.1,idsL_more hnm h.2⟩
end
mutual
theorem ren_no {ρ:Nat→Nat}:∀ {t:T},t.ids 0=true→t.ren ρ=t
 |.agg l,h=>by rw [T.ren,renL_no (l:=l) h]
 |.tup l,h=>by rw [T.ren,renL_no (l:=l) h]
 |.lst e l,h=>by rw [T.ren,renL_no (l:=l) h]
 |.cp l,h=>by rw [T.ren,renL_no (l:=l) h]
 |.ptr b o N,h=>by simp [T.ids,Nat.blt] at h
 |.arr b e o l c N,h=>by simp [T.ids,Nat.blt] at h
 |.mp b,h=>by simp [T.ids,Nat.blt] at h
 |.fn f a c,h=>by
  simp only [T.ids,Bool.and_eq_true] at h
  rw [T.ren,renL_no (l:=a) h.1,renL_no (l:=c) h.2]
 |.int _ _,_=>rfl
 |.bool _,_=>rfl
 |.str _,_=>rfl
 |.nils,_=>rfl
 |.nilp,_=>rfl
 |.nilm,_=>rfl
 |.nilf,_=>rfl
 |.junk,_=>rfl
 |.emp _,_=>rfl
theorem renL_no {ρ:Nat→Nat}:∀ {l:List T},T.idsL 0 l=true→T.renL ρ l=l
 |[],_=>rfl
 |t :: l,h=>by
  simp only [T.idsL,Bool.and_eq_true] at h
  rw [T.renL,ren_no h.1,renL_no h.2]
end
theorem Keeps.one {z:Bool} {M:Nat} {cs:List T} (h:T.idsL 1 cs=true):Keeps (stL [.cells z M cs]) (stL [.cells z M cs]):=by
 refine ⟨Nat.le_refl _,fun b=>?_⟩
 cases b with
 |zero=>exact .inr ⟨by show 0<1;omega,rfl,h⟩
 |succ b=>exact .inl rfl
theorem Call.fresh {f:FuncId} {args:List T} {e n c M:Nat} {z:Bool} {M2:Nat} {cs:List T} (k:Call P Γ GL f args ts0 (.arr 0 e 0 n c M) (stL [.cells z M2 cs])) (ha:T.idsL 0 args=true) (hb:T.idsL 0 cs=true) (bs:List Box):Call P Γ GL f args (stL bs) (.arr bs.length e 0 n c M) (stL (bs++[.cells z M2 cs])):=by
 have:=Call.frame (ρ:=fun i=>bs.length+i) (S:=stL bs) (S':=stL (bs++[.cells z M2 cs])) k ha (by rfl) ⟨Nat.zero_le _,fun b _=>rfl,fun i hi=>absurd hi (by show ¬ i<0;omega),fun i _ hi=>by show bs.length≤bs.length+i;omega,fun i hi=>by have:i<1:=hi;show bs.length+i<(bs++[_]).length;rw [List.length_append];simp;omega,by show bs.length≤(bs++[_]).length;simp,fun i j _ _ h=>by have:bs.length+i=bs.length+j:=h;omega,fun i hi=>absurd hi (by show ¬ i<0;omega),fun i hi=>?_,fun b hb=>?_⟩
 ·rw [renL_no ha] at this
  exact this
 ·have:i<1:=hi
  have:i=0:=by omega
  subst this
  constructor
  ·show (bs++[Box.cells z M2 cs]).getD (bs.length+0) .gone=.cells z M2 (T.renL _ cs)
   rw [renL_no hb,Nat.add_zero,List.getD_eq_getElem?_getD,List.getElem?_append_right (Nat.le_refl _)]
   simp
  ·show T.idsL 1 cs=true
   exact idsL_mem fun t ht=>by
    have:=idsL_of hb t ht
    exact ids_more (Nat.zero_le _) this
 ·show (bs++[Box.cells z M2 cs]).getD b .gone=bs.getD b .gone
  by_cases hlt:b<bs.length
  ·rw [List.getD_eq_getElem?_getD,List.getD_eq_getElem?_getD,List.getElem?_append_left hlt]
  ·by_cases h2:b=bs.length
   ·exact absurd (h2 ▸ rfl:bs.length+0=b) (hb 0 (by show 0<1;omega))
   ·rw [List.getD_eq_getElem?_getD,List.getD_eq_getElem?_getD,List.getElem?_eq_none (by rw [List.length_append];simp;omega),List.getElem?_eq_none (by omega)]
end
def mset {K V:Type} [DecidableEq K] (k:K) (v:V):List (K×V)→List (K×V)
 |[]=>[(k,v)]
 |p :: l=>if k=p.1 then (k,v) :: l else p :: mset k v l
def mget {K V:Type} [DecidableEq K] (k:K):List (K×V)→Option V
 |[]=>none
 |p :: l=>if k=p.1 then some p.2 else mget k l
theorem keyI {kk:IntKind} {a b:Int}:tKeyEq (.int kk a) (.int kk b)=some (decide (a=b)):=by
 show (bif Nat.beq (ikN kk) (ikN kk) then some (a == b) else none)=_
 rw [Nat.beq_refl,cond_true]
 by_cases h:a=b<;>simp [h]
theorem keyS {a b:ByteArray}:tKeyEq (.str a) (.str b)=some (decide (a=b)):=by
 show some (a.data.toList == b.data.toList)=_
 by_cases h:a=b
 ·subst h;simp
 ·have:(a.data.toList == b.data.toList)=false:=by simpa using fun hh=>h (ByteArray.ext hh)
  rw [this,decide_eq_false h]
theorem tset_gen {K V:Type} [DecidableEq K] {kf:K→T} {f:V→T} (hk:∀ a b,tKeyEq (kf a) (kf b)=some (decide (a=b))) (k:K) (v:V):∀ l:List (K×V),tSet (kf k) (f v) (l.map fun p=>(kf p.1,f p.2))=some ((mset k v l).map fun p=>(kf p.1,f p.2))
 |[]=>rfl
 |p :: l=>by
  rw [List.map_cons,tSet,hk]
  unfold mset
  by_cases h:k=p.1
  ·rw [decide_eq_true h,if_pos h,List.map_cons]
  ·rw [decide_eq_false h,if_neg h,List.map_cons]
   simp only [tset_gen hk k v l]
theorem tget_gen {K V:Type} [DecidableEq K] {kf:K→T} {f:V→T} (hk:∀ a b,tKeyEq (kf a) (kf b)=some (decide (a=b))) (k:K):∀ l:List (K×V),tGet (kf k) (l.map fun p=>(kf p.1,f p.2))=some ((mget k l).map f)
 |[]=>rfl
 |p :: l=>by
  rw [List.map_cons,tGet,hk]
  unfold mget
  by_cases h:k=p.1
  ·rw [decide_eq_true h,if_pos h];rfl
  ·rw [decide_eq_false h,if_neg h];exact tget_gen hk k l
theorem tset_int {kk:IntKind} {V:Type} {f:V→T} {k:Int} {v:V} {l:List (Int×V)}:tSet (.int kk k) (f v) (l.map fun p=>(.int kk p.1,f p.2))=some ((mset k v l).map fun p=>(.int kk p.1,f p.2)):=tset_gen (kf:=T.int kk) (fun _ _=>keyI) k v l
theorem tget_int {kk:IntKind} {V:Type} {f:V→T} {k:Int} {l:List (Int×V)}:tGet (.int kk k) (l.map fun p=>(.int kk p.1,f p.2))=some ((mget k l).map f):=tget_gen (kf:=T.int kk) (fun _ _=>keyI) k l
theorem tset_str {V:Type} {f:V→T} {k:ByteArray} {v:V} {l:List (ByteArray×V)}:tSet (.str k) (f v) (l.map fun p=>(.str p.1,f p.2))=some ((mset k v l).map fun p=>(.str p.1,f p.2)):=tset_gen (kf:=T.str) (fun _ _=>keyS) k v l
theorem tget_str {V:Type} {f:V→T} {k:ByteArray} {l:List (ByteArray×V)}:tGet (.str k) (l.map fun p=>(.str p.1,f p.2))=some ((mget k l).map f):=tget_gen (kf:=T.str) (fun _ _=>keyS) k l
theorem found_f {V:Type} {f:V→T} {d:V} {o:Option V}:foundT false (f d) (o.map f)=f (o.getD d):=by cases o<;>rfl
theorem found_t {V:Type} {f:V→T} {d:V} {o:Option V}:foundT true (f d) (o.map f)=.tup [f (o.getD d),.bool o.isSome]:=by cases o<;>rfl
theorem ids2A:type_of% (And.intro (And.intro (And.intro (@idsL_append) (And.intro (@Bool.true_and) (@Bool.and_true))) (And.intro (@blt_ok) (And.intro (@Bool.and_self) (@and_self)))) (And.intro (And.intro (@and_true) (And.intro (@true_and) (@List.take_succ_cons.{0}))) (And.intro (And.intro (@List.take_zero.{0}) (@List.length_cons.{0})) (And.intro (@List.length_nil.{0}) (@Nat.zero_add))))):=And.intro (And.intro (And.intro (@idsL_append) (And.intro (@Bool.true_and) (@Bool.and_true))) (And.intro (@blt_ok) (And.intro (@Bool.and_self) (@and_self)))) (And.intro (And.intro (@and_true) (And.intro (@true_and) (@List.take_succ_cons.{0}))) (And.intro (And.intro (@List.take_zero.{0}) (@List.length_cons.{0})) (And.intro (@List.length_nil.{0}) (@Nat.zero_add))))
theorem ids2B:type_of% (And.intro (And.intro (And.intro (@T.ids.eq_1) (And.intro (@T.ids.eq_2) (@T.ids.eq_3))) (And.intro (@T.ids.eq_4) (And.intro (@T.ids.eq_5) (@T.ids.eq_6)))) (And.intro (And.intro (@T.ids.eq_7) (And.intro (@T.ids.eq_8) (@T.ids.eq_9))) (And.intro (@T.idsL.eq_1) (And.intro (@T.idsL.eq_2) (@tupd_at))))):=And.intro (And.intro (And.intro (@T.ids.eq_1) (And.intro (@T.ids.eq_2) (@T.ids.eq_3))) (And.intro (@T.ids.eq_4) (And.intro (@T.ids.eq_5) (@T.ids.eq_6)))) (And.intro (And.intro (@T.ids.eq_7) (And.intro (@T.ids.eq_8) (@T.ids.eq_9))) (And.intro (@T.idsL.eq_1) (And.intro (@T.idsL.eq_2) (@tupd_at))))
theorem ids2C:type_of% (And.intro (And.intro (@boxesIds.eq_1) (And.intro (@boxesIds.eq_2) (@boxIds.eq_1))) (And.intro (And.intro (@boxIds.eq_2) (@boxIds.eq_3)) (And.intro (@keepIds.eq_1) (@keepIds.eq_2)))):=And.intro (And.intro (@boxesIds.eq_1) (And.intro (@boxesIds.eq_2) (@boxIds.eq_1))) (And.intro (And.intro (@boxIds.eq_2) (@boxIds.eq_3)) (And.intro (@keepIds.eq_1) (@keepIds.eq_2)))
theorem scA:type_of% (And.intro (@List.set_cons_zero.{0}) (@List.set_cons_succ.{0})):=And.intro (@List.set_cons_zero.{0}) (@List.set_cons_succ.{0})
theorem scB:type_of% (And.intro (And.intro (@st_n) (And.intro (@List.length_cons.{0}) (@List.length_nil.{0}))) (And.intro (@List.cons_append.{0}) (And.intro (@List.nil_append.{0}) (@Nat.zero_add)))):=And.intro (And.intro (@st_n) (And.intro (@List.length_cons.{0}) (@List.length_nil.{0}))) (And.intro (@List.cons_append.{0}) (And.intro (@List.nil_append.{0}) (@Nat.zero_add)))
theorem gsA:type_of% (And.intro (And.intro (@tupd_at) (And.intro (@List.map_append.{0,0}) (@List.map_cons.{0,0}))) (And.intro (@List.map_nil.{0,0}) (And.intro (@Nat.add_mul) (@Nat.one_mul)))):=And.intro (And.intro (@tupd_at) (And.intro (@List.map_append.{0,0}) (@List.map_cons.{0,0}))) (And.intro (@List.map_nil.{0,0}) (And.intro (@Nat.add_mul) (@Nat.one_mul)))
end Go.Proofs.YtcgdomhednbdpaaDoor
namespace Go.Proofs.YtcgdomhednbdpaaDoor
open Go Go.RowKit
structure Ar (n:Nat) where
  l:List Int
  h:l.length=n
deriving DecidableEq
instance {n:Nat}:Inhabited (Ar n):=⟨⟨List.replicate n 0,List.length_replicate⟩⟩
theorem Ar.ext' {n:Nat} {a b:Ar n} (h:a.l=b.l):a=b:=by cases a;cases b;cases h;rfl
def mkAr (n:Nat) (l:List Int):Ar n:=⟨(l++List.replicate n 0).take n,by rw [List.length_take,List.length_append,List.length_replicate];omega⟩
theorem mkAr_l {n:Nat} {l:List Int} (h:l.length=n):(mkAr n l).l=l:=by
  show (l++List.replicate n 0).take n=l
  rw [List.take_append_of_le_length (by omega),List.take_of_length_le (by omega)]
def zA (n:Nat):Ar n:=⟨List.replicate n 0,List.length_replicate⟩
def zVs (n:Nat) (k:IntKind):List Value:=List.replicate n (.int k 0)
theorem zVs_T {n:Nat} {k:IntKind}:zerosT (zVs n k)=some ((zA n).l.map (T.int k)):=by
  show zerosT (List.replicate n (.int k 0))=some ((List.replicate n 0).map (T.int k))
  induction n with
  |zero=>rfl
  |succ n ih=>rw [List.replicate_succ,List.replicate_succ,List.map_cons];unfold zerosT;rw [ih];rfl
def eAr (k:IntKind) {n:Nat} (a:Ar n):T:=.agg (a.l.map (T.int k))
theorem eAr_cells {k:IntKind} {n:Nat} (a:Ar n):(eAr k a).cells=a.l.map (T.int k):=Eq.trans rfl rfl
theorem eAr_len {k:IntKind} {n:Nat} (a:Ar n):(eAr k a).cells.length=n:=by rw [eAr_cells,List.length_map,a.h]
theorem eAr_one {k:IntKind}:∀ (l:List Int),(l.map (T.int k)).all T.one=true
  |[]=>rfl
  |x :: l=>by rw [List.map_cons,List.all_cons,eAr_one l];rfl
theorem ids_mk {k:IntKind} {m:Nat}:∀ (l:List Int),T.idsL m (l.map (T.int k))=true
  |[]=>rfl
  |x :: l=>by simp only [List.map_cons,T.idsL,T.ids,ids_mk l,Bool.and_self]
theorem ids_ar {k:IntKind} {m n:Nat} (a:Ar n):(eAr k a).ids m=true:=ids_mk a.l
section
variable {P:Program}
theorem forIn_rng (len:Nat) (β:Type) (b:β) (f:Nat→β→Sem (ForInStep β)):(forIn [0:len] b f:Sem β)=forIn (List.range' 0 len) b f:=by
  rw [Std.Legacy.Range.forIn_eq_forIn_range']
  simp [Std.Legacy.Range.size]
theorem scals_mk {k:IntKind}:∀ (l:List Int),scalsV (l.map (T.int k))=some (l.map (Value.int k))
  |[]=>rfl
  |x :: l=>by rw [List.map_cons];unfold scalsV;rw [scals_mk l];rfl
theorem ev_part {σ : Type} (s0 s1 : σ) (x y : List Int) (len : Nat) (hx : x.length = len) (hy : y.length = len) (f : Nat → σ → Sem (ForInStep σ))
    (hf:∀ i (hi:i<len),eval0 P (f i s0)=some (if x[i]=y[i] then .yield s0 else .done s1)) :
    ∀ (m k:Nat),k+m=len→eval0 P (forIn (List.range' k m) s0 f:Sem σ)=some (if x.drop k=y.drop k then s0 else s1):=by
  intro m
  induction m with
  |zero=>intro k hk;simp [List.drop_of_length_le (show x.length≤k by omega),List.drop_of_length_le (show y.length≤k by omega)];rfl
  |succ m ih =>
    intro k hk
    have hdx:=List.drop_eq_getElem_cons (show k<x.length by omega)
    have hdy:=List.drop_eq_getElem_cons (show k<y.length by omega)
    rw [List.range'_succ,List.forIn_cons,eval0_bind_e,hf k (by omega)]
    by_cases hxy:x[k]'(by omega)=y[k]'(by omega)
    · rw [if_pos hxy]
      show eval0 P (forIn (List.range' (k+1) m) s0 f)=_
      rw [ih (k+1) (by omega),hdx,hdy]
      simp only [hxy,List.cons.injEq,true_and]
    · rw [if_neg hxy,hdx,hdy]
      simp only [hxy,List.cons.injEq,false_and,if_false]
      rfl
theorem ev_eqi (d:Nat) {e:TypeId} (k k':IntKind) (a b:Int) (he:P.underlying e=some (.int k)):eval0 P (Op.equalIn (d+1) e (.int k' a) (.int k' b))=some (a == b):=by
  unfold Op.equalIn
  rw [eval0_bind_e,eval0_underlying he]
  cases k'<;>rfl
theorem ev_eqa (d : Nat) {t e len : Nat} {k : IntKind} {i : TypeInfo} (ht : P.underlying t = some (.array len e)) (he : P.underlying e = some (.int k)) (hi : P.info? e = some i) (hsz : i.size = 1) (x y : List Int) (hx : x.length = len) (hy : y.length = len) :
    eval0 P (Op.equalIn (d+2) t (.agg (x.map (Value.int k)).toArray) (.agg (y.map (Value.int k)).toArray))=some (x == y):=by
  have hpart:∀ (l:List Int) (j:Nat) (hk:j<l.length),eval0 P (part e (l.map (Value.int k)).toArray j)=some (.int k l[j]):=by
    intro l j hk
    have hagg:eval0 P (isAgg e)=some false:=by
      unfold isAgg
      rw [eval0_bind_e,eval0_underlying he]
      rfl
    have hp:∀ v:Value,eval0 P (pure v:Sem Value)=some v:=fun v=>rfl
    simp [part,eval0_bind_e,hagg,hk,hp]
  have hq:∀ a b:Int,eval0 P (Op.equalIn (d+1) e (.int k a) (.int k b))=some (a == b):=fun a b=>ev_eqi d k k a b he
  show eval0 P (Op.equalIn ((d+1)+1) _ _ _)=_
  generalize d+1=d' at *
  have hsize:eval0 P (sizeOf e)=some 1:=by
    unfold sizeOf typeInfo
    rw [eval0_bind_e,eval0_bind_e]
    show ((eval0 P (match P.info? e with|some i=>pure i|none=>_)).bind _)=_
    rw [hi]
    show eval0 P (pure i.size)=_
    rw [hsz];rfl
  have hpu:∀ {α:Type} (v:α),eval0 P (pure v:Sem α)=some v:=fun v=>rfl
  simp only [Op.equalIn,eval0_bind_e,eval0_underlying ht,Option.bind_some,hsize,forIn_rng,Nat.mul_one]
  rw [ev_part (P:=P) (none,()) (some false,()) x y len hx hy _ ?_ len 0 (by omega)]
  · by_cases hxy:x=y
    · subst hxy;simp [hpu]
    · simp [hxy,hpu]
  · intro j hk
    simp only [eval0_bind_e,hpart x j (by omega),hpart y j (by omega),Option.bind_some,hq]
    by_cases hxy:x[j]'(by omega)=y[j]'(by omega)
    · have e1:((x[j]'(by omega)) == (y[j]'(by omega)))=true:=by rw [hxy];simp
      rw [e1,if_pos hxy]
      simp [hpu]
    · have e1:((x[j]'(by omega)) == (y[j]'(by omega)))=false:=by
        simp only [beq_eq_false_iff_ne,ne_eq]
        exact hxy
      rw [e1,if_neg hxy]
      simp [hpu]
variable {Γ:Env} {S:TS} {t:TypeId} {x y:Operand}
theorem tBin_ar {n e : Nat} {k : IntKind} (ht : P.underlying t = some (.array n e)) (he : P.underlying e = some (.int k)) (hi : (P.info? e).map (·.size) = some 1) (hq : P.eqGuardType P.depth t = false) (a b : Ar n) :
    tBin P Γ S t .eql x y (eAr k a) (eAr k b)=some (.bool (decide (a=b)))∧tBin P Γ S t .neq x y (eAr k a) (eAr k b)=some (.bool (!(decide (a=b)))):=by
  obtain ⟨i,hi1,hi2⟩:∃ i,P.info? e=some i∧i.size=1:=by
    cases h:P.info? e with
    |none=>rw [h] at hi;simp at hi
    |some i=>rw [h] at hi;exact ⟨i,rfl,by simpa using hi⟩
  have h:=ev_eqa (P:=P) 9998 ht he hi1 hi2 a.l b.l a.h b.h
  have hg:∀ op,op=.eql∨op=.neq→eval0 P (eqGuard op t x y (.agg (a.l.map (Value.int k)).toArray) (.agg (b.l.map (Value.int k)).toArray))=some ():=by
    intro op hop
    rcases hop with rfl|rfl
    · show eval0 P (if !(P.eqGuardType P.depth t) then pure () else _)=some ()
      rw [hq];rfl
    · show eval0 P (if !(P.eqGuardType P.depth t) then pure () else _)=some ()
      rw [hq];rfl
  have hd:(a.l == b.l)=decide (a=b):=by
    by_cases hab:a=b
    · rw [hab];simp
    · rw [decide_eq_false hab]
      have:a.l≠b.l:=fun hh=>hab (Ar.ext' hh)
      simp [this]
  have he:eval0 P (binOp .eql t (.agg (a.l.map (Value.int k)).toArray) (.agg (b.l.map (Value.int k)).toArray))=some (.bool (decide (a=b))):=by
    show eval0 P (do pure (Value.bool (← Op.equal t (.agg (a.l.map (Value.int k)).toArray) (.agg (b.l.map (Value.int k)).toArray))):Sem Value)=_
    have h2:eval0 P (Op.equal t (.agg (a.l.map (Value.int k)).toArray) (.agg (b.l.map (Value.int k)).toArray))=some (a.l == b.l):=h
    rw [eval0_bind_e,h2,hd];rfl
  have hn:eval0 P (binOp .neq t (.agg (a.l.map (Value.int k)).toArray) (.agg (b.l.map (Value.int k)).toArray))=some (.bool (!(decide (a=b)))):=by
    show eval0 P (do pure (Value.bool (!(← Op.equal t (.agg (a.l.map (Value.int k)).toArray) (.agg (b.l.map (Value.int k)).toArray)))):Sem Value)=_
    have h2:eval0 P (Op.equal t (.agg (a.l.map (Value.int k)).toArray) (.agg (b.l.map (Value.int k)).toArray))=some (a.l == b.l):=h
    rw [eval0_bind_e,h2,hd];rfl
  constructor
  · show aggBin P t .eql x y _ _=_
    unfold aggBin
    rw [scals_mk,scals_mk]
    simp only
    rw [eval0_bind_e,hg _ (.inl rfl)]
    show (match eval0 P (binOp .eql t (.agg (a.l.map (Value.int k)).toArray) (.agg (b.l.map (Value.int k)).toArray)) with|some (.bool r)=>some (T.bool r)|_=>none)=_
    rw [he]
  · show aggBin P t .neq x y _ _=_
    unfold aggBin
    rw [scals_mk,scals_mk]
    simp only
    rw [eval0_bind_e,hg _ (.inr rfl)]
    show (match eval0 P (binOp .neq t (.agg (a.l.map (Value.int k)).toArray) (.agg (b.l.map (Value.int k)).toArray)) with|some (.bool r)=>some (T.bool r)|_=>none)=_
    rw [hn]
end
end Go.Proofs.YtcgdomhednbdpaaDoor
namespace Go.Proofs.YtcgdomhednbdpaaDoor
open Go Go.RowKit
noncomputable def aggO:Option (List T)→Option T
  |some l=>some (.agg l)
  |none=>none
theorem fn6 (ax:Axs):(EE ax).fn.at 6=some Tryd.f6:=by kernel_rfl
theorem fn9 (ax:Axs):(EE ax).fn.at 9=some Tryd.f9:=by kernel_rfl
theorem fn10 (ax:Axs):(EE ax).fn.at 10=some Tryd.f10:=by kernel_rfl
theorem fn12 (ax:Axs):(EE ax).fn.at 12=some Tryd.f12:=by kernel_rfl
theorem fn13 (ax:Axs):(EE ax).fn.at 13=some Tryd.f13:=by kernel_rfl
theorem fn14 (ax:Axs):(EE ax).fn.at 14=some Tryd.f14:=by kernel_rfl
theorem fn16 (ax:Axs):(EE ax).fn.at 16=some Tryd.f16:=by kernel_rfl
theorem fn18 (ax:Axs):(EE ax).fn.at 18=some Tryd.f18:=by kernel_rfl
theorem fn20 (ax:Axs):(EE ax).fn.at 20=some Tryd.f20:=by kernel_rfl
theorem fn22 (ax:Axs):(EE ax).fn.at 22=some Tryd.f22:=by kernel_rfl
theorem fn27 (ax:Axs):(EE ax).fn.at 27=some Tryd.f27:=by kernel_rfl
theorem fn29 (ax:Axs):(EE ax).fn.at 29=some Tryd.f29:=by kernel_rfl
theorem fn30 (ax:Axs):(EE ax).fn.at 30=some Tryd.f30:=by kernel_rfl
theorem fn35 (ax:Axs):(EE ax).fn.at 35=some Tryd.f35:=by kernel_rfl
theorem fn37 (ax:Axs):(EE ax).fn.at 37=some Tryd.f37:=by kernel_rfl
theorem fn38 (ax:Axs):(EE ax).fn.at 38=some Tryd.f38:=by kernel_rfl
theorem fn39 (ax:Axs):(EE ax).fn.at 39=some Tryd.f39:=by kernel_rfl
theorem fn40 (ax:Axs):(EE ax).fn.at 40=some Tryd.f40:=by kernel_rfl
theorem fn41 (ax:Axs):(EE ax).fn.at 41=some Tryd.f41:=by kernel_rfl
theorem fn42 (ax:Axs):(EE ax).fn.at 42=some Tryd.f42:=by kernel_rfl
theorem fn47 (ax:Axs):(EE ax).fn.at 47=some Tryd.f47:=by kernel_rfl
theorem fn48 (ax:Axs):(EE ax).fn.at 48=some Tryd.f48:=by kernel_rfl
theorem fn58 (ax:Axs):(EE ax).fn.at 58=some Tryd.f58:=by kernel_rfl
theorem fn60 (ax:Axs):(EE ax).fn.at 60=some Tryd.f60:=by kernel_rfl
theorem fn68 (ax:Axs):(EE ax).fn.at 68=some Tryd.f68:=by kernel_rfl
theorem fn69 (ax:Axs):(EE ax).fn.at 69=some Tryd.f69:=by kernel_rfl
theorem fn75 (ax:Axs):(EE ax).fn.at 75=some Tryd.f75:=by kernel_rfl
theorem ti30 (ax:Axs):(EE ax).ti.at 30=some ⟨.int .i64,1,8,[.int .i64 0]⟩:=by kernel_rfl
theorem ti40 (ax:Axs):(EE ax).ti.at 40=some ⟨.int .u16,1,2,[.int .u16 0]⟩:=by kernel_rfl
theorem sr43 (ax:Axs):srcT (EE ax) 43=true:=by kernel_rfl
theorem ti48 (ax:Axs):(EE ax).ti.at 48=some ⟨.slice 23,1,24,[.slice none 0 0]⟩:=by kernel_rfl
theorem sr48 (ax:Axs):srcT (EE ax) 48=true:=by kernel_rfl
theorem ti49 (ax:Axs):(EE ax).ti.at 49=some ⟨.slice 48,1,24,[.slice none 0 0]⟩:=by kernel_rfl
theorem sr49 (ax:Axs):srcT (EE ax) 49=true:=by kernel_rfl
theorem sr56 (ax:Axs):srcT (EE ax) 56=true:=by kernel_rfl
theorem ti66 (ax:Axs):(EE ax).ti.at 66=some ⟨.slice 3,1,24,[.slice none 0 0]⟩:=by kernel_rfl
theorem sr66 (ax:Axs):srcT (EE ax) 66=true:=by kernel_rfl
theorem el43 (ax:Axs):elemOf? (EE ax) 43=some ⟨.int .u8,1,1,[.int .u8 0]⟩:=by kernel_rfl
theorem el48 (ax:Axs):elemOf? (EE ax) 48=some ⟨.array 16 5,16,16,[.int .u8 0,.int .u8 0,.int .u8 0,.int .u8 0,.int .u8 0,.int .u8 0,.int .u8 0,.int .u8 0,.int .u8 0,.int .u8 0,.int .u8 0,.int .u8 0,.int .u8 0,.int .u8 0,.int .u8 0,.int .u8 0]⟩:=by kernel_rfl
theorem el49 (ax:Axs):elemOf? (EE ax) 49=some ⟨.slice 23,1,24,[.slice none 0 0]⟩:=by kernel_rfl
theorem el56 (ax:Axs):elemOf? (EE ax) 56=some ⟨.string,1,16,[.string ⟨#[]⟩]⟩:=by kernel_rfl
theorem el66 (ax:Axs):elemOf? (EE ax) 66=some ⟨.int .i64,1,8,[.int .i64 0]⟩:=by kernel_rfl
theorem tz23 (ax:Axs):(EE ax).ti.at 23=some ⟨.array 16 5,16,16,zVs 16 .u8⟩:=by kernel_rfl
theorem aq23 (ax:Axs) (a b:Ar 16):(∀ (S:TS) (x y:Operand),tBin Tryd.prog (EE ax) S 23 .eql x y (.agg (a.l.map (T.int .u8))) (.agg (b.l.map (T.int .u8)))=some (.bool (decide (a=b))))∧(∀ (S:TS) (x y:Operand),tBin Tryd.prog (EE ax) S 23 .neq x y (.agg (a.l.map (T.int .u8))) (.agg (b.l.map (T.int .u8)))=some (.bool (!(decide (a=b))))):=⟨fun _ _ _=>(tBin_ar (e:=5) (by kernel_rfl) (by kernel_rfl) (by kernel_rfl) (by kernel_rfl) a b).1,fun _ _ _=>(tBin_ar (e:=5) (by kernel_rfl) (by kernel_rfl) (by kernel_rfl) (by kernel_rfl) a b).2⟩
theorem tz25 (ax:Axs):(EE ax).ti.at 25=some ⟨.array 35 3,35,280,zVs 35 .i64⟩:=by kernel_rfl
noncomputable def fd60:TypeDesc:=match Tryd.prog.underlying 60 with|some d=>d|none=>.bool
theorem ti60 (ax:Axs):(EE ax).ti.at 60=some ⟨fd60,1,8,[.nilFunc]⟩:=by kernel_rfl
theorem ag60:aggT fd60=false:=by kernel_rfl
end Go.Proofs.YtcgdomhednbdpaaDoor
namespace Go.Proofs.YtcgdomhednbdpaaDoor
open Go Go.RowKit
section
variable {GL:List (Nat×List Value)} {A A' A2:Nat→Prop} {β β' β2:Bx} {S S' S2:TS} {s s' s2:CS} {P:Program} {Γ:Env} {N:Nat} {h h' h2:Nat→T} {Q R:Exit→(Nat→T)→TS→Prop}
theorem VL.setAt {g:Nat→Fam} {t:T} {v:Value}:∀ {l:List T} {vs:List Value} {i:Nat},VL A β g l vs→vs[i]?=some v→VT A β g t v→VL A β g (l.set i t) vs
 |[],_,_,.nil,_,_=>.nil
 |x :: l,y :: vs,0,.cons k1 k2,hv,ht=>by
  simp only [List.getElem?_cons_zero,Option.some.injEq] at hv
  subst hv
  exact .cons ht k2
 |x :: l,y :: vs,i+1,.cons k1 k2,hv,ht=>.cons k1 (VL.setAt k2 (by simpa using hv) ht)
theorem TW.freezeC {c : Code} (c0 i : Nat) {b e len M N0 : Nat} {z z0 : Bool} {l l0 : List T} (L : List T) (hS0 : S.box c0 = .cells z0 N0 l0) (hi : l0[i]? = some (.arr b e 0 len len M)) (hne : c0 ≠ b) (hS : S.box b = .cells z M l) (he : 0 < e) (hoff : 0 + len * e ≤ M) (hL : (l.drop 0).take (len * e) = L.flatMap T.cells) (hs : ∀ t, t ∈ L → t.cells.length = e) (hlen : L.length = len)
    (k:TW P Γ GL N c h ((S.set c0 (.cells z0 N0 (l0.set i (.lst e L)))).set b .gone) Q):TW P Γ GL N c h S Q:=by
  intro A β fr s hF hT
  obtain ⟨A',β',k1,k2,k3⟩:=hT.freeze hS
  obtain ⟨n0,hc⟩:=hT.cells c0 z0 N0 l0 hS0
  have hS0':(S.set b .gone).box c0=.cells z0 N0 l0:=by rw [TS.set_ne _ _ hne];exact hS0
  obtain ⟨n1,hc'⟩:=k1.cells c0 z0 N0 l0 hS0'
  have hi0:i<l0.length:=(List.getElem?_eq_some_iff.1 hi).1
  have hnew:CellsAt A' β' (objAt s.obj) c0 z0 N0 (l0.set i (.lst e L)):=by
    rcases hc with ⟨_,q,_⟩|⟨f,u,cs,rest,a1,a2,a3,a4,a5⟩
    · omega
    · rcases hc' with ⟨_,q,_⟩|⟨f',u',cs',rest',b1,b2,b3,b4,b5⟩
      · omega
      · obtain ⟨l',c1,c2⟩:=k2.bx c0 _ a1
        rw [b1] at c1
        cases c1
        simp only [Loc.le] at c2
        rcases c2 with ⟨rfl,rfl,_⟩|c2
        · rw [a3] at b3
          simp only [Fam.mk.injEq,List.cons.injEq,Prod.mk.injEq] at b3
          obtain ⟨_,⟨⟨_,rfl⟩,rfl⟩,_⟩:=b3
          obtain ⟨v,v1,v2⟩:=a4.get hi
          refine ⟨by rw [List.length_set];exact n0,.inr ⟨f,u,cs,rest,b1,a2,a3,b4.setAt v1 (k3 v2 he hoff hL hs hlen (Nat.le_refl _)),a5⟩⟩
        · omega
  have hT':TRel GL A' β' ((S.set c0 (.cells z0 N0 (l0.set i (.lst e L)))).set b .gone) s:=by
    refine ⟨k1.inr,k1.inv,k1.alt,k1.dis,k1.inj,k1.next,fun b' z N' l' hb'=>?_,fun b' l' hb'=>?_,k1.glob⟩
    · by_cases e1:b'=b
      · subst e1;rw [TS.set_same] at hb';cases hb'
      · rw [TS.set_ne _ _ e1] at hb'
        by_cases e2:b'=c0
        · subst e2;rw [TS.set_same] at hb';cases hb';exact hnew
        · rw [TS.set_ne _ _ e2] at hb'
          exact k1.cells b' z N' l' (by rw [TS.set_ne _ _ e1];exact hb')
    · by_cases e1:b'=b
      · subst e1;rw [TS.set_same] at hb';cases hb'
      · rw [TS.set_ne _ _ e1] at hb'
        by_cases e2:b'=c0
        · subst e2;rw [TS.set_same] at hb';cases hb'
        · rw [TS.set_ne _ _ e2] at hb'
          exact k1.maps b' l' (by rw [TS.set_ne _ _ e1];exact hb')
  have hF':FrOk A' β' (objAt s.obj) N h fr:=⟨hF.nt,hF.le,fun u=>k2.vt hT (hF.slot u)⟩
  refine (k A' β' fr s hF' hT').mono ?_
  rintro e2 fr2 s2 ⟨h2,S2,l2,q2⟩
  exact ⟨h2,S2,Left.trans (h':=h) (fr':=fr) hT.le k2 l2,q2⟩
theorem TW.nilC {c:Code} (c0 i e:Nat) {N0:Nat} {z0:Bool} {l0:List T} (hS0:S.box c0=.cells z0 N0 l0) (hi:l0[i]?=some .nils) (k:TW P Γ GL N c h (S.set c0 (.cells z0 N0 (l0.set i (.lst e [])))) Q):TW P Γ GL N c h S Q:=by
 intro A β fr s hF hT
 obtain ⟨n0,hc⟩:=hT.cells c0 z0 N0 l0 hS0
 have hi0:i<l0.length:=(List.getElem?_eq_some_iff.1 hi).1
 have hnew:CellsAt A β (objAt s.obj) c0 z0 N0 (l0.set i (.lst e [])):=by
  rcases hc with ⟨_,q,_⟩|⟨f,u,cs,rest,a1,a2,a3,a4,a5⟩
  ·omega
  ·obtain ⟨v,v1,v2⟩:=a4.get hi
   refine ⟨by rw [List.length_set];exact n0,.inr ⟨f,u,cs,rest,a1,a2,a3,a4.setAt v1 ?_,a5⟩⟩
   cases v2
   exact .lnil
 have hT':TRel GL A β (S.set c0 (.cells z0 N0 (l0.set i (.lst e [])))) s:=by
  refine ⟨hT.inr,hT.inv,hT.alt,hT.dis,hT.inj,hT.next,fun b' z N' l' hb'=>?_,fun b' l' hb'=>?_,hT.glob⟩
  ·by_cases e2:b'=c0
   ·subst e2;rw [TS.set_same] at hb';cases hb';exact hnew
   ·rw [TS.set_ne _ _ e2] at hb'
    exact hT.cells b' z N' l' hb'
  ·by_cases e2:b'=c0
   ·subst e2;rw [TS.set_same] at hb';cases hb'
   ·rw [TS.set_ne _ _ e2] at hb'
    exact hT.maps b' l' hb'
 exact k A β fr s hF hT'
theorem TW.vecC {c:Code} (c0 i e:Nat) {N0:Nat} {z0:Bool} {l0:List T} (hS0:S.box c0=.cells z0 N0 l0) (hi:l0[i]?=some .nils) (h0:c0<S.n) (k:TW P Γ GL N c h ((S.set c0 (.cells z0 N0 (l0.set i (.arr S.n e 0 0 0 0)))).add (.cells false 0 [])) Q):TW P Γ GL N c h S Q:=by
 intro A β fr s hF hT
 have hb0:β S.n=none:=hT.next _ (Nat.le_refl _)
 have hle:Bx.le β (bnew β S.n .nil):=bnew_le hb0
 have hse:bnew β S.n .nil S.n=some .nil:=if_pos rfl
 have hne:∀ b',b'≠S.n→bnew β S.n .nil b'=β b':=fun b' hb'=>if_neg hb'
 have hown:∀ f,Own (bnew β S.n .nil) f→Own β f:=fun f ⟨b',hb'⟩=>by
  by_cases hi:b'=S.n
  ·subst hi
   rw [hse] at hb'
   rcases hb' with ⟨u,N,hb'⟩|hb'<;>simp at hb'
  ·rw [hne b' hi] at hb';exact ⟨b',hb'⟩
 have hst:Stp A β s A (bnew β S.n .nil) s:=⟨Can.refl _,fun _ h=>h,fun _ h=>.inl h,fun f hf=>.inl (hown f hf),fun _ _ _=>rfl,hle,fun _ h=>.inl h,fun _ h=>.inl h⟩
 obtain ⟨n0,hc⟩:=hT.cells c0 z0 N0 l0 hS0
 have hi0:i<l0.length:=(List.getElem?_eq_some_iff.1 hi).1
 have hnew:CellsAt A (bnew β S.n .nil) (objAt s.obj) c0 z0 N0 (l0.set i (.arr S.n e 0 0 0 0)):=by
  rcases hc with ⟨_,q,_⟩|⟨f,u,cs,rest,a1,a2,a3,a4,a5⟩
  ·omega
  ·obtain ⟨v,v1,v2⟩:=a4.get hi
   have a4':=a4.mono (A':=A) (β':=bnew β S.n .nil) (g':=objAt s.obj) (fun _ h=>h) (fun _ _=>rfl) hle
   refine ⟨by rw [List.length_set];exact n0,.inr ⟨f,u,cs,rest,by rw [hne c0 (by omega)];exact a1,a2,a3,a4'.setAt v1 ?_,a5⟩⟩
   cases v2
   exact .arrNil hse
 have hT':TRel GL A (bnew β S.n .nil) ((S.set c0 (.cells z0 N0 (l0.set i (.arr S.n e 0 0 0 0)))).add (.cells false 0 [])) s:=by
  refine ⟨hT.inr,hT.inv,hT.alt,fun f hf=>hT.dis f (hown f hf),fun b1 b2 l1 l2 f h1 h2 h3 h4=>?_,fun b' hb'=>?_,fun b' z N l hb'=>?_,fun b' l hb'=>?_,hT.glob⟩
  ·by_cases e1:b1=S.n
   ·subst e1;rw [hse] at h1;cases h1;simp [Loc.fam] at h3
   ·by_cases e2:b2=S.n
    ·subst e2;rw [hse] at h2;cases h2;simp [Loc.fam] at h4
    ·rw [hne b1 e1] at h1;rw [hne b2 e2] at h2
     exact hT.inj b1 b2 l1 l2 f h1 h2 h3 h4
  ·have:S.n+1≤b':=hb'
   rw [hne b' (by omega)]
   exact hT.next b' (by omega)
  ·by_cases hi:b'=S.n
   ·subst hi
    have hq:=(TS.add_same (S.set c0 (.cells z0 N0 (l0.set i (.arr S.n e 0 0 0 0)))) (.cells false 0 [])).symm.trans hb'
    cases hq;exact ⟨rfl,.inl ⟨hse,rfl,rfl⟩⟩
   ·rw [TS.add_ne _ _ (show b'≠(S.set c0 (.cells z0 N0 (l0.set i (.arr S.n e 0 0 0 0)))).n from hi)] at hb'
    by_cases e2:b'=c0
    ·subst e2;rw [TS.set_same] at hb';cases hb';exact hnew
    ·rw [TS.set_ne _ _ e2] at hb'
     exact (hT.cells b' z N l hb').mono (fun _ h=>h) (fun _ _=>rfl) hle (hne b' hi) fun _ _ _ _=>rfl
  ·by_cases hi:b'=S.n
   ·subst hi
    have hq:=(TS.add_same (S.set c0 (.cells z0 N0 (l0.set i (.arr S.n e 0 0 0 0)))) (.cells false 0 [])).symm.trans hb'
    cases hq
   ·rw [TS.add_ne _ _ (show b'≠(S.set c0 (.cells z0 N0 (l0.set i (.arr S.n e 0 0 0 0)))).n from hi)] at hb'
    by_cases e2:b'=c0
    ·subst e2;rw [TS.set_same] at hb';cases hb'
    ·rw [TS.set_ne _ _ e2] at hb'
     exact (hT.maps b' l hb').mono (fun _ h=>h) (fun _ _=>rfl) hle (hne b' hi) fun _ _=>rfl
 have hF':FrOk A (bnew β S.n .nil) (objAt s.obj) N h fr:=⟨hF.nt,hF.le,fun u=>hst.vt hT (hF.slot u)⟩
 refine (k A _ fr s hF' hT').mono ?_
 rintro e2 fr2 s2 ⟨h2,S2,l2,q2⟩
 exact ⟨h2,S2,Left.trans (h':=h) (fr':=fr) hT.le hst l2,q2⟩
end
def Le1:List T→List T→Prop
 |[],[]=>True
 |t :: l,t' :: l'=>(t=t'∨(t=.nils∧∃ e,t'=.lst e []))∧Le1 l l'
 |_,_=>False
def Le2:List T→List T→Prop
 |[],[]=>True
 |t :: l,t' :: l'=>(t=t'∨(t=.nils∧∃ e,t'=.lst e [])∨∃ m m',t=.agg m∧t'=.agg m'∧Le1 m m')∧Le2 l l'
 |_,_=>False
theorem Le1.vl {A:Nat→Prop} {β:Bx} {g:Nat→Fam}:∀ {l l':List T} {vs:List Value},Le1 l l'→VL A β g l vs→VL A β g l' vs
 |[],[],_,_,.nil=>.nil
 |t :: l,t' :: l',_,h,.cons k1 k2=>by
  obtain ⟨h1,h2⟩:=h
  rcases h1 with rfl|⟨rfl,e,rfl⟩
  ·exact .cons k1 (Le1.vl h2 k2)
  ·cases k1;exact .cons .lnil (Le1.vl h2 k2)
theorem Le2.vl {A:Nat→Prop} {β:Bx} {g:Nat→Fam}:∀ {l l':List T} {vs:List Value},Le2 l l'→VL A β g l vs→VL A β g l' vs
 |[],[],_,_,.nil=>.nil
 |t :: l,t' :: l',_,h,.cons k1 k2=>by
  obtain ⟨h1,h2⟩:=h
  rcases h1 with rfl|⟨rfl,e,rfl⟩|⟨m,m',rfl,rfl,h3⟩
  ·exact .cons k1 (Le2.vl h2 k2)
  ·cases k1;exact .cons .lnil (Le2.vl h2 k2)
  ·cases k1 with|agg k=>exact .cons (.agg (h3.vl k)) (Le2.vl h2 k2)
theorem bnd_lo {n:Nat} {i:Int} (h:0≤i∧i≤(n:Int)):boundsC n n (some (.int .i64 i)) none none=some (i.toNat,n,n):=by
 obtain ⟨k,rfl⟩:∃ k:Nat,i=(k:Int):=⟨i.toNat,by omega⟩
 exact bounds_l rfl (by omega) (Nat.le_refl _)
end Go.Proofs.YtcgdomhednbdpaaDoor
namespace Go.Proofs.YtcgdomhednbdpaaDoor
open Go Go.RowKit
theorem Ar.len {n:Nat} (a:Ar n):a.l.length=n:=a.h
def Ar.set {n:Nat} (a:Ar n) (i v:Int):Ar n:=⟨a.l.set i.toNat v,by rw [List.length_set,a.h]⟩
theorem eAr_def {k:IntKind} {n:Nat} (a:Ar n):eAr k a=.agg (a.l.map (T.int k)):=Eq.trans rfl rfl
theorem arTake {k:IntKind} {n:Nat} (a:Ar n):(a.l.map (T.int k)).take n=a.l.map (T.int k):=List.take_of_length_le (by rw [List.length_map,a.h];omega)
theorem arIx {n:Nat} (a:Ar n) {i:Int} (h:0≤i∧i<(n:Int)):a.l[i.toNat]?=some (gx a.l i):=gx_some (by rw [a.h];exact h)
theorem arSpl {k:IntKind} {n:Nat} (a b:Ar n):spl (a.l.map (T.int k)) 0 (b.l.map (T.int k))=b.l.map (T.int k):=by
  unfold spl
  rw [List.take_zero,List.nil_append,List.drop_of_length_le (by rw [List.length_map,List.length_map,a.h,b.h];omega),List.append_nil]
theorem arSet {k:IntKind} {n:Nat} (a:Ar n) {i:Int} (v:Int) (h:0≤i∧i<(n:Int)):spl (a.l.map (T.int k)) i.toNat [T.int k v]=(a.set i v).l.map (T.int k):=by
  exact spl_map (f:=T.int k) (v:=v) (L:=a.l) (i:=i.toNat) (by rw [a.h];omega)
theorem arCp {k:IntKind} {n:Nat} (a:Ar n) {i:Int} (h:0≤i∧i<(n:Int)):((a.l.map (T.int k)).drop i.toNat)[0]?=some (T.int k (gx a.l i)):=by
  rw [List.getElem?_drop,Nat.add_zero,List.getElem?_map,arIx a h];rfl
def u8o (z:Int):UInt8:=UInt8.ofNat z.toNat
def strL (l:List Int):ByteArray:=⟨(l.map u8o).toArray⟩
def bytL (s:ByteArray):List Int:=s.data.toList.map fun c=>(c.toNat:Int)
theorem bytL_len (s:ByteArray):(bytL s).length=s.size:=by unfold bytL;rw [List.length_map];exact Array.length_toList
theorem bytesT_eq (s:ByteArray):bytesT s=(bytL s).map (T.int .u8):=by
  unfold bytesT bytL
  rw [List.map_map]
  rfl
theorem allU8_mk:∀ (l:List Int),allU8T (l.map (T.int .u8))=some (l.map u8o)
  |[]=>rfl
  |x :: l=>by rw [List.map_cons];unfold allU8T;rw [allU8_mk l];rfl
theorem strL_def (l:List Int):(⟨(l.map u8o).toArray⟩:ByteArray)=strL l:=Eq.trans rfl rfl
theorem cells_mk {k:IntKind}:∀ (l:List Int),(l.map (T.int k)).flatMap T.cells=l.map (T.int k)
  |[]=>rfl
  |x :: l=>by rw [List.map_cons,List.flatMap_cons,cells_mk l];rfl
theorem takeAll {k:IntKind} {l:List Int} {n:Nat} (h:l.length=n):(l.map (T.int k)).take n=l.map (T.int k):=List.take_of_length_le (by rw [List.length_map,h];omega)
theorem takeLen {k:IntKind} {l:List Int}:(l.map (T.int k)).take l.length=l.map (T.int k):=takeAll rfl
def cpA {n:Nat} (a:Ar n) (s:ByteArray):Ar n:=⟨(bytL s).take (min s.size n)++a.l.drop (min s.size n),by rw [List.length_append,List.length_take,List.length_drop,bytL_len,a.h];omega⟩
theorem arCopy {n:Nat} (a:Ar n) (s:ByteArray):spl (a.l.map (T.int .u8)) 0 (((bytL s).map (T.int .u8)).take (min s.size n))=(cpA a s).l.map (T.int .u8):=by
  unfold spl cpA
  rw [List.take_zero,List.nil_append,List.length_take,List.length_map,bytL_len,List.map_append,List.map_take,List.map_drop,Nat.zero_add]
  congr 2
  omega
theorem allTake {k:IntKind} {l:List Int} {n:Nat}:((l.map (T.int k)).take n).all T.one=true:=by rw [← List.map_take];exact eAr_one _
theorem bnd_nn {n:Nat}:boundsC n n none none none=some (0,n,n):=bounds_all (Nat.le_refl _)
theorem natO_nat {d k:Nat}:natO d (some (.int .i64 (k:Int)))=some k:=by
  rfl
theorem bnd_hi {n:Nat} {j:Int} (h:0≤j∧j≤(n:Int)):boundsC n n none (some (.int .i64 j)) none=some (0,j.toNat,n):=by
  obtain ⟨b,rfl⟩:∃ k:Nat,j=(k:Int):=⟨j.toNat,by omega⟩
  rw [bounds_nat,natO_nat]
  show (bif Nat.ble 0 b && Nat.ble b n && Nat.ble n n && _ then some (0,b,n) else none)=_
  rw [ble_ok (by omega),ble_ok (by omega),ble_ok (Nat.le_refl _)]
  rfl
theorem sb_add {m n:ByteArray} (h:m.size+n.size≤9223372036854775807):strBin .add m n=some (.str (m++n)):=if_pos h
theorem tBn_arr {Γ:Env} {t e' z bb:Nat} {zs:List Value} (hi:Γ.ti.at t=some ⟨.slice e',z,bb,zs⟩):∀ (P:Program) (S:TS) (b e o l c N:Nat) (x y:Operand),S.has b N=true→0<N→tBin P Γ S t .eql x y (.arr b e o l c N) .nils=some (.bool false):=by
  intro P S b e o l c N x y hb hN
  show (match Γ.ti.at t with
    |some i=>(match tNil S i.desc (.arr b e o l c N),tNil S i.desc .nils with
      |some p,some q=>bif p || q then some (T.bool (p && q)) else none
      |_,_=>none)
    |none=>none)=_
  rw [hi]
  simp only [tNil,hb,blt_ok hN,Bool.and_self,cond_true,Bool.false_or,Bool.false_and]
theorem vecC_ar1 {k:IntKind} {n:Nat} (r:Ar n):vecC (eAr k) [r]=r.l.map (T.int k):=by
  unfold vecC
  rw [List.map_cons,List.map_nil,List.flatMap_cons,List.flatMap_nil,List.append_nil,eAr_cells]
theorem rep1N:rep (1:Int).toNat [T.nils]=[T.nils]:=Eq.trans rfl rfl
theorem min_le1 (a n:Nat):min a n≤n:=Nat.min_le_right _ _
theorem sub0 {n:Nat}:n - 0=n:=Nat.sub_zero n
theorem eAr_cel {k:IntKind} {n:Nat}:∀ x:Ar n,(eAr k x).cells.length=n:=eAr_len
end Go.Proofs.YtcgdomhednbdpaaDoor
namespace Go.Proofs.YtcgdomhednbdpaaDoor
open Go Go.RowKit
def rotr32 (x:UInt32) (i:Nat):UInt32:=shl32 x (32 - i) ||| shr32 x i
theorem and31 (i:Nat) (h:i<32) (h0:0<i):IntKind.u64.wrap (BitVec.ofInt IntKind.u64.bits (IntKind.u64.wrap (-(i:Int))) &&& BitVec.ofInt IntKind.u64.bits 31).toNat=((32 - i:Nat):Int):=by
  have:∀ i:Fin 32,0<i.val→IntKind.u64.wrap (BitVec.ofInt IntKind.u64.bits (IntKind.u64.wrap (-(i.val:Int))) &&& BitVec.ofInt IntKind.u64.bits 31).toNat=((32 - i.val:Nat):Int):=by decide
  exact this ⟨i,h⟩ h0
theorem sub32 (i:Nat) (h:i<32):(32:Int) - ((32 - i:Nat):Int)=(i:Int):=by omega
theorem neg32 (i:Nat) (h:i<32):IntKind.i64.wrap (0 - (i:Int))=-(i:Int):=inK_i64 (n:=0 - (i:Int)) (by omega) |>.trans (by omega)
theorem rotl_run (ax:Axs) (hax:ax 76=none) (x:UInt32) (i:Nat) (h0:0<i) (h1:i<32) (s:CS):callR Tryd.prog (EE ax) 76 [vw x,.int .i64 (-(i:Int))] s=some (vw (rotr32 x i),s):=by
  refine callR_go (fn:=Tryd.f76) 17 hax (fn76 ax) rfl Tryd.ntmps76 (by simp) ?_
  simp (disch:=omega) only [ofArgs_cons,ofArgs_nil,Nat.reduceAdd]
  apply W.seq
  apply W.region
  · simp (disch:=first|omega | (simp (disch:=omega) [ev_tmp,ev_const,get_of,upd_same,upd_ne,Tryd.underlying47,Tryd.underlying3,Tryd.underlying68,Tryd.underlying5];done) | (apply inK_i64;omega) | (apply inK_u64;omega)) only [runC_cons,runC_nil,stepC_free,dstC_dst,dstC_none,thenC_some,cop_assign,cop_move,cop_conv,cop_bin,cop_un,ev_tmp,ev_const,put_of,get_of,upd_same,upd_ne,opConvert,ti3,ti47,ti68,ti5,ti9]
    with_reducible rfl
  simp only [onN]
  apply W.seq
  apply W.region
  · simp (disch:=first|omega | (simp (disch:=omega) [ev_tmp,ev_const,get_of,upd_same,upd_ne,Tryd.underlying47,Tryd.underlying3,Tryd.underlying68,Tryd.underlying5];done) | (apply inK_i64;omega) | (apply inK_u64;omega)) only [runC_cons,runC_nil,stepC_free,dstC_dst,dstC_none,thenC_some,cop_assign,cop_move,cop_conv,cop_bin,cop_un,ev_tmp,ev_const,put_of,get_of,upd_same,upd_ne,opConvert,ti3,ti47,ti68,ti5,ti9,oc_int,ow_and,and31 i h1 h0]
    with_reducible rfl
  simp only [onN]
  apply W.seq
  apply W.region
  · simp (disch:=first|omega | (simp (disch:=omega) [ev_tmp,ev_const,get_of,upd_same,upd_ne,Tryd.underlying47,Tryd.underlying3,Tryd.underlying68,Tryd.underlying5];done) | (apply inK_i64;omega) | (apply inK_u64;omega)) only [runC_cons,runC_nil,stepC_free,dstC_dst,dstC_none,thenC_some,cop_assign,cop_move,cop_conv,cop_bin,cop_un,ev_tmp,ev_const,put_of,get_of,upd_same,upd_ne,opConvert,ti3,ti47,ti68,ti5,ti9,oi_sub,bw_shl,bw_shr,bw_or,sub32 i h1]
    with_reducible rfl
  simp only [onN]
  apply W.ret
  refine ⟨.inr rfl,[vw (rotr32 x i)],?_,rfl⟩
  simp (disch:=omega) only [resC,Tryd.results76,get_of,upd_same]
  rfl
def Plain (ax:Axs):Prop:=∀ f,[66].contains f=false→ax f=none
def mix32 (x:UInt32) (i j k:Nat):UInt32:=rotr32 x i ^^^ rotr32 x j ^^^ rotr32 x k
theorem mix_run (ax:Axs) (hp:Plain ax) (x:UInt32) (i j k:Nat) (hi0:0<i) (hi:i<32) (hj0:0<j) (hj:j<32) (hk0:0<k) (hk:k<32) (s:CS):callR Tryd.prog (EE ax) 74 [vw x,.int .i64 (i:Int),.int .i64 (j:Int),.int .i64 (k:Int)] s=some (vw (mix32 x i j k),s):=by
  have hax:ax 74=none:=hp _ (by decide)
  have hr:ax 76=none:=hp _ (by decide)
  have ri:=rotl_run ax hr x i hi0 hi
  have rj:=rotl_run ax hr x j hj0 hj
  have rk:=rotl_run ax hr x k hk0 hk
  refine callR_go (fn:=Tryd.f74) 23 hax (fn74 ax) rfl Tryd.ntmps74 (by simp) ?_
  simp (disch:=omega) only [ofArgs_cons,ofArgs_nil,Nat.reduceAdd]
  apply W.seq
  apply W.region
  · simp (disch:=first|omega | (simp (disch:=omega) [ev_tmp,ev_const,get_of,upd_same,upd_ne,Tryd.underlying47,Tryd.underlying3,Tryd.underlying68,Tryd.underlying5];done) | (apply inK_i64;omega) | (apply inK_u64;omega)) only [runC_cons,runC_nil,stepC_free,dstC_dst,dstC_none,thenC_some,cop_assign,cop_move,cop_conv,cop_bin,cop_un,ev_tmp,ev_const,put_of,get_of,upd_same,upd_ne,opConvert,ti3,ti47,ti68,ti5,ti9]
    with_reducible rfl
  simp only [onN]
  apply W.seq
  apply W.region
  · simp (disch:=first|omega | (simp (disch:=omega) [ev_tmp,ev_const,get_of,upd_same,upd_ne,Tryd.underlying47,Tryd.underlying3,Tryd.underlying68,Tryd.underlying5];done) | (apply inK_i64;omega) | (apply inK_u64;omega)) only [runC_cons,runC_nil,stepC_free,dstC_dst,dstC_none,thenC_some,cop_assign,cop_move,cop_conv,cop_bin,cop_un,ev_tmp,ev_const,put_of,get_of,upd_same,upd_ne,opConvert,ti3,ti47,ti68,ti5,ti9,cop_call,List.map_cons,List.map_nil,List.toList_toArray,ou_neg,neg32 i hi,neg32 j hj,neg32 k hk,ri,rj,rk,bw_xor]
    with_reducible rfl
  simp only [onN]
  apply W.ret
  refine ⟨.inr rfl,[vw (mix32 x i j k)],?_,rfl⟩
  simp (disch:=omega) only [resC,Tryd.results74,get_of,upd_same]
  all_goals rfl
end Go.Proofs.YtcgdomhednbdpaaDoor
namespace Go.Proofs.YtcgdomhednbdpaaDoor
open Go Go.RowKit
end Go.Proofs.YtcgdomhednbdpaaDoor
namespace Go.Proofs.YtcgdomhednbdpaaDoor
open Go Go.RowKit
def word (bs:List UInt8) (t:Nat):Nat→UInt32
 |0=>0
 |j+1=>shl32 (word bs t j) 8 ||| (bs.getD (4*t+j) 0).toUInt32
def sig0 (p:UInt32):UInt32:=rotr32 p 7 ^^^ rotr32 p 18 ^^^ shr32 p 3
def sig1 (p:UInt32):UInt32:=rotr32 p 17 ^^^ rotr32 p 19 ^^^ shr32 p 10
def nextw (w:List UInt32) (t:Nat):UInt32:=w.getD (t - 16) 0+sig0 (w.getD (t - 15) 0)+w.getD (t - 7) 0+sig1 (w.getD (t - 2) 0)
def sched (bs:List UInt8):Nat→List UInt32
 |0=>List.replicate 64 0
 |t+1=>(sched bs t).set t (if t<16 then word bs t 4 else nextw (sched bs t) t)
theorem sched_len (bs:List UInt8):∀ t,(sched bs t).length=64
 |0=>by simp [sched]
 |t+1=>by rw [sched,List.length_set,sched_len bs t]
theorem sched_zero (bs:List UInt8):∀ t i,t≤i→(sched bs t).getD i 0=0
 |0,i,_=>by
  rw [sched,List.getD_eq_getElem?_getD]
  by_cases hi:i<64
  ·rw [List.getElem?_replicate_of_lt hi];rfl
  ·rw [List.getElem?_eq_none (by simp;omega)];rfl
 |t+1,i,h=>by
  rw [sched,List.getD_eq_getElem?_getD,List.getElem?_set_ne (by omega),← List.getD_eq_getElem?_getD]
  exact sched_zero bs t i (by omega)
theorem sched_set0 (bs:List UInt8) (t:Nat) (h:t<64):(sched bs t).set t (word bs t 0)=sched bs t:=by
 apply List.ext_getElem?
 intro i
 by_cases hi:t=i
 ·subst hi
  have hl:=sched_len bs t
  have h0:=sched_zero bs t t (Nat.le_refl _)
  rw [List.getElem?_set_self (by omega)]
  rw [List.getD_eq_getElem?_getD] at h0
  rw [List.getElem?_eq_getElem (by omega)] at h0 ⊢
  simp at h0
  rw [h0];rfl
 ·rw [List.getElem?_set_ne hi]
theorem getD_set_same {l:List UInt32} {k:Nat} {x:UInt32} (h:k<l.length):(l.set k x).getD k 0=x:=by
 rw [List.getD_eq_getElem?_getD,List.getElem?_set_self h];rfl
theorem sched_run (ax : Axs) (hp : Plain ax) (bs : List UInt8) (fb ub off len cap : Nat) (n : Nat) (g : Nat → Fam) (lim : Nat) (rd wr : List Nat) (hl : lim ≤ n) (hb : BSl g n fb ub off len cap bs) (h64 : len = 64) (hc1 : cap < 1000000000) :
    ∃ n' g' rd',callR Tryd.prog (EE ax) 73 [.slice (some (mkA fb ub off)) len cap] (St n g lim rd wr)=some (.agg (wvs (sched bs 64)).toArray,St n' g' lim rd' wr)∧n≤n'∧n'≤n+2∧(∀ i,i<n→g' i=g i)∧(∀ x,x∈rd'→x∈rd∨(x=fb∧x<lim)):=by
  have hax:ax 73=none:=hp _ (by decide)
  have hr:=hp 76 (by decide)
  obtain ⟨cs,hrow,hcs⟩:=hb.row
  have hbl:=hb.lt
  have hbc:=hb.fits
  suffices hh:∃ v s2,callR Tryd.prog (EE ax) 73 [.slice (some (mkA fb ub off)) len cap] (St n g lim rd wr)=some (v,s2)∧v=.agg (wvs (sched bs 64)).toArray∧∃ n' g' rd',s2=St n' g' lim rd' wr∧n≤n'∧n'≤n+2∧(∀ i,i<n→g' i=g i)∧(∀ x,x∈rd'→x∈rd∨(x=fb∧x<lim)) by
    obtain ⟨v,s2,h1,rfl,n',g',rd',rfl,h2⟩:=hh
    exact ⟨n',g',rd',h1,h2⟩
  refine callR_ex (fn:=Tryd.f73) 79 hax (fn73 ax) rfl Tryd.ntmps73 (by simp) ?_
  simp (disch:=omega) only [ofArgs_cons,ofArgs_nil,Nat.reduceAdd]
  repeat apply W.seq
  apply W.region
  · simp (disch:=first|omega | (simp (disch:=omega) [ev_tmp,ev_const,get_of,upd_same,upd_ne,Tryd.underlying3,Tryd.underlying47,Tryd.underlying5,Tryd.underlying68,Tryd.underlying43];done) | (apply inK_i64;omega) | (apply inK_u64;omega)) only [op_len,cond_true,cond_false,List.toList_toArray,List.map_cons,List.map_nil,some_map,none_map,ti3,ti47,ti5,ti68,ti43,alloc_st (ti90 ax),wB0,wB1]
    with_reducible rfl
  simp only [onN,onB]
  repeat apply W.seq
  apply W.region
  · simp (disch:=first|omega | (simp (disch:=omega) [ev_tmp,ev_const,get_of,upd_same,upd_ne,Tryd.underlying3,Tryd.underlying47,Tryd.underlying5,Tryd.underlying68,Tryd.underlying43];done) | (apply inK_i64;omega) | (apply inK_u64;omega)) only [op_len,cond_true,cond_false,List.toList_toArray,List.map_cons,List.map_nil,some_map,none_map,ti3,ti47,ti5,ti68,ti43,alloc_st (ti90 ax),wB0,wB1]
    with_reducible rfl
  simp only [onN,onB]
  repeat apply W.seq
  apply W.region
  · simp (disch:=first|omega | (simp (disch:=omega) [ev_tmp,ev_const,get_of,upd_same,upd_ne,Tryd.underlying3,Tryd.underlying47,Tryd.underlying5,Tryd.underlying68,Tryd.underlying43];done) | (apply inK_i64;omega) | (apply inK_u64;omega)) only [op_len,cond_true,cond_false,List.toList_toArray,List.map_cons,List.map_nil,some_map,none_map,ti3,ti47,ti5,ti68,ti43,wB0,wB1]
    with_reducible rfl
  simp only [onN,onB]
  repeat apply W.seq
  apply W.block
  refine W.loop (fun m fr s=>∃ (t:Nat) (h:Nat→Value) (g':Nat→Fam) (rd':List Nat),t≤64∧m=64 - t∧fr=Fr.of 79 h∧s=St (n+2) g' lim rd' wr∧h 0=.slice (some (mkA fb ub off)) len cap∧h 2=.pointer (some (mkA n (n*1024+0) 0))∧h 3=.pointer (some (mkA (n+1) ((n+1)*1024+0) 0))∧h 11=.int .i64 (t:Int)∧g' (n+1)=⟨false,[((n+1)*1024+0,wvs (sched bs t))],none⟩∧g' n=⟨false,[(n*1024+0,List.replicate 64 (vw 0))],none⟩∧(∀ i,i<n→g' i=g i)∧(∀ x,x∈rd'→x∈rd∨(x=fb∧x<lim))) ?_ (64 - 0) _ _ ⟨0,_,_,rd,by omega,rfl,rfl,rfl,?_,?_,?_,?_,?_,?_,?_,fun x hx=>.inl hx⟩
  case refine_2=>simp (disch:=omega) only [upd_same,upd_ne]
  case refine_3=>simp (disch:=omega) only [upd_same,upd_ne]
  case refine_4=>simp (disch:=omega) only [upd_same,upd_ne]
  case refine_5=>simp (disch:=omega) only [upd_same,upd_ne];rfl
  case refine_6=>rw [fupd_same];rfl
  case refine_7=>rw [fupd_ne _ _ _ _ (by omega),fupd_same];rfl
  case refine_8=>intro i hi;rw [fupd_ne _ _ _ _ (by omega),fupd_ne _ _ _ _ (by omega)]
  rintro m fr s ⟨t,h,g',rd',ht,rfl,rfl,rfl,h0,h2,h3,h11,hw,hz,hg,hrd⟩
  repeat apply W.seq
  apply W.region
  · simp (disch:=first|omega | (simp (disch:=omega) [ev_tmp,ev_const,get_of,upd_same,upd_ne,h11,Tryd.underlying3,Tryd.underlying47,Tryd.underlying5,Tryd.underlying68,Tryd.underlying43];done) | (apply inK_i64;omega) | (apply inK_u64;omega)) only [op_len,cond_true,cond_false,List.toList_toArray,List.map_cons,List.map_nil,some_map,none_map,ti3,ti47,ti5,ti68,ti43,oi_lss,h11,wB0,wB1]
    with_reducible rfl
  simp only [onN,onB]
  by_cases hlt:(t:Int)<64
  case neg =>
    repeat apply W.seq
    refine W.cond (b:=false) ?_ ?_
    · simp (disch:=omega) only [ev_tmp,get_of,upd_same,upd_ne,hlt,decide_true,decide_false]
    simp only [cond_true,cond_false]
    apply W.exit
    simp only [onN,onB,Nat.beq_refl,cond_true,cond_false,bexit]
    have hte:t=64:=by omega
    subst hte
    have L1:=ld_all (Γ:=EE ax) (n:=n+2) (lim:=lim) (rd:=rd') (wr:=wr) (ti90 ax) rfl (g:=g') (f:=n+1) (u:=(n+1)*1024+0) (cs:=wvs (sched bs 64)) (by rw [hw];exact rowOf_one) (by rw [wvs_len,sched_len])
    rw [ins_ge _ (by omega)] at L1
    have S1:=st_all (Γ:=EE ax) (n:=n+2) (lim:=lim) (rd:=rd') (wr:=wr) (ti90 ax) (f:=n) (u:=n*1024+0) (vs:=wvs (sched bs 64)) hz (by rw [wvs_len,sched_len]) (by simp) (wvs_one _)
    rw [ins_ge _ (by omega)] at S1
    repeat apply W.seq
    apply W.region
    · simp (disch:=first|omega | (simp (disch:=omega) [ev_tmp,ev_const,get_of,upd_same,upd_ne,h2,h3,Tryd.underlying3,Tryd.underlying47,Tryd.underlying5,Tryd.underlying68,Tryd.underlying43];done) | (apply inK_i64;omega) | (apply inK_u64;omega)) only [op_len,cond_true,cond_false,List.toList_toArray,List.map_cons,List.map_nil,some_map,none_map,ti3,ti47,ti5,ti68,ti43,h2,h3,L1,cells_agg,S1,wB0,wB1]
      with_reducible rfl
    simp only [onN,onB]
    apply W.ret
    refine ⟨.inr rfl,[.agg (wvs (sched bs 64)).toArray],St (n+2) (fupd g' n ⟨false,[(n*1024+0,wvs (sched bs 64))],none⟩) lim rd' wr,?_,rfl,n+2,_,rd',rfl,by omega,by omega,fun i hi=>by rw [fupd_ne _ _ _ _ (by omega)];exact hg i hi,hrd⟩
    have L2:=ld_all (Γ:=EE ax) (n:=n+2) (lim:=lim) (rd:=rd') (wr:=wr) (ti90 ax) rfl (g:=fupd g' n ⟨false,[(n*1024+0,wvs (sched bs 64))],none⟩) (f:=n) (u:=n*1024+0) (cs:=wvs (sched bs 64)) (by rw [fupd_same];exact rowOf_one) (by rw [wvs_len,sched_len])
    rw [ins_ge _ (by omega)] at L2
    simp (disch:=first|omega | (simp (disch:=omega) only [get_of,upd_same,upd_ne,h2];done)) only [resC_cell (ad:=mkA n (n*1024+0) 0),resC_nil,Tryd.results73,get_of,upd_same,upd_ne,h2,L2,resThen_some,resAdd_some]
  have htl:t<64:=by omega
  repeat apply W.seq
  refine W.cond (b:=true) ?_ ?_
  · simp (disch:=omega) only [ev_tmp,get_of,upd_same,upd_ne,hlt,decide_true,decide_false]
  simp only [cond_true,cond_false]
  apply W.skip
  simp only [onN,onB]
  repeat apply W.seq
  apply W.block
  repeat apply W.seq
  apply W.region
  · simp (disch:=first|omega | (simp (disch:=omega) [ev_tmp,ev_const,get_of,upd_same,upd_ne,h11,Tryd.underlying3,Tryd.underlying47,Tryd.underlying5,Tryd.underlying68,Tryd.underlying43];done) | (apply inK_i64;omega) | (apply inK_u64;omega)) only [op_len,cond_true,cond_false,List.toList_toArray,List.map_cons,List.map_nil,some_map,none_map,ti3,ti47,ti5,ti68,ti43,h11,wB0,wB1]
    with_reducible rfl
  simp only [onN,onB]
  repeat apply W.seq
  apply W.region
  · simp (disch:=first|omega | (simp (disch:=omega) [ev_tmp,ev_const,get_of,upd_same,upd_ne,Tryd.underlying3,Tryd.underlying47,Tryd.underlying5,Tryd.underlying68,Tryd.underlying43];done) | (apply inK_i64;omega) | (apply inK_u64;omega)) only [op_len,cond_true,cond_false,List.toList_toArray,List.map_cons,List.map_nil,some_map,none_map,ti3,ti47,ti5,ti68,ti43,oi_lss,wB0,wB1]
    with_reducible rfl
  simp only [onN,onB]
  by_cases h16:(t:Int)<16
  case pos =>
    repeat apply W.seq
    refine W.cond (b:=true) ?_ ?_
    · simp (disch:=omega) only [ev_tmp,get_of,upd_same,upd_ne,h16,decide_true,decide_false]
    simp only [cond_true,cond_false]
    have c1:(4:Int)*(t:Int)=((4*t:Nat):Int):=by omega
    have c2:((4*t:Nat):Int)+4=((4*t+4:Nat):Int):=by omega
    have c4:4*t+4 - 4*t=4:=by omega
    have hbd:=bounds_lh (len:=len) (cap:=cap) (natOf_nat .i64 (4*t)) (natOf_nat .i64 (4*t+4)) (by omega) (by omega)
    repeat apply W.seq
    apply W.region
    · simp (disch:=first|omega | (simp (disch:=omega) [ev_tmp,ev_const,get_of,upd_same,upd_ne,h0,h11,Tryd.underlying3,Tryd.underlying47,Tryd.underlying5,Tryd.underlying68,Tryd.underlying43];done) | (apply inK_i64;omega) | (apply inK_u64;omega) | (rw [c1,c2];apply inK_i64;omega)) only [op_len,cond_true,cond_false,List.toList_toArray,List.map_cons,List.map_nil,some_map,none_map,ti3,ti47,ti5,ti68,ti43,h0,h11,oi_mul,c1,oi_add,c2,slice_sl (ti43 ax) (ti5 ax) hbd hb.tag,Nat.mul_one,c4,len_sl (ti43 ax),lit_cast,wB0,wB1]
      with_reducible rfl
    simp only [onN,onB]
    repeat apply W.seq
    apply W.block
    refine W.loop (fun m fr s=>∃ (j:Nat) (h':Nat→Value) (g2:Nat→Fam) (rd2:List Nat),j≤4∧m=4 - j∧fr=Fr.of 79 h'∧s=St (n+2) g2 lim rd2 wr∧h' 0=.slice (some (mkA fb ub off)) len cap∧h' 2=.pointer (some (mkA n (n*1024+0) 0))∧h' 3=.pointer (some (mkA (n+1) ((n+1)*1024+0) 0))∧h' 4=.int .i64 (t:Int)∧h' 11=.int .i64 (t:Int)∧h' 22=.slice (some (mkA fb ub (off+4*t))) 4 (cap - 4*t)∧h' 23=.int .i64 4∧h' 24=.int .i64 (j:Int)∧g2 (n+1)=⟨false,[((n+1)*1024+0,wvs ((sched bs t).set t (word bs t j)))],none⟩∧g2 n=⟨false,[(n*1024+0,List.replicate 64 (vw 0))],none⟩∧(∀ i,i<n→g2 i=g i)∧(∀ x,x∈rd2→x∈rd∨(x=fb∧x<lim))) ?_ (4 - 0) _ _ ⟨0,_,g',rd',by omega,rfl,rfl,rfl,?_,?_,?_,?_,?_,?_,?_,?_,?_,hz,hg,hrd⟩
    case refine_2=>simp (disch:=omega) only [upd_same,upd_ne,h0]
    case refine_3=>simp (disch:=omega) only [upd_same,upd_ne,h2]
    case refine_4=>simp (disch:=omega) only [upd_same,upd_ne,h3]
    case refine_5=>simp (disch:=omega) only [upd_same,upd_ne]
    case refine_6=>simp (disch:=omega) only [upd_same,upd_ne,h11]
    case refine_7=>simp (disch:=omega) only [upd_same,upd_ne]
    case refine_8=>simp (disch:=omega) only [upd_same,upd_ne]
    case refine_9=>simp (disch:=omega) only [upd_same,upd_ne];rfl
    case refine_10=>rw [hw,sched_set0 bs t htl]
    clear h0 h2 h3 h11 hw hz hg hrd
    rintro m fr s ⟨j,h',g2,rd2,hj,rfl,rfl,rfl,h0,h2,h3,h4,h11,h22,h23,h24,hw,hz,hg,hrd⟩
    repeat apply W.seq
    apply W.region
    · simp (disch:=first|omega | (simp (disch:=omega) [ev_tmp,ev_const,get_of,upd_same,upd_ne,h23,h24,Tryd.underlying3,Tryd.underlying47,Tryd.underlying5,Tryd.underlying68,Tryd.underlying43];done) | (apply inK_i64;omega) | (apply inK_u64;omega)) only [op_len,cond_true,cond_false,List.toList_toArray,List.map_cons,List.map_nil,some_map,none_map,ti3,ti47,ti5,ti68,ti43,oi_lss,h23,h24,wB0,wB1]
      with_reducible rfl
    simp only [onN,onB]
    by_cases hlj:(j:Int)<4
    case neg =>
      repeat apply W.seq
      refine W.cond (b:=false) ?_ ?_
      · simp (disch:=omega) only [ev_tmp,get_of,upd_same,upd_ne,hlj,decide_true,decide_false]
      simp only [cond_true,cond_false]
      apply W.exit
      simp only [onN,onB,Nat.beq_refl,cond_true,cond_false,bexit]
      apply W.exit
      simp only [onN,onB,Nat.beq_refl,cond_true]
      repeat apply W.seq
      apply W.region
      · simp (disch:=first|omega | (simp (disch:=omega) [ev_tmp,ev_const,get_of,upd_same,upd_ne,h11,Tryd.underlying3,Tryd.underlying47,Tryd.underlying5,Tryd.underlying68,Tryd.underlying43];done) | (apply inK_i64;omega) | (apply inK_u64;omega)) only [op_len,cond_true,cond_false,List.toList_toArray,List.map_cons,List.map_nil,some_map,none_map,ti3,ti47,ti5,ti68,ti43,oi_add,h11,wB0,wB1]
        with_reducible rfl
      simp only [onN,onB]
      have hj4:j=4:=by omega
      subst hj4
      refine ⟨64 - (t+1),by omega,t+1,_,g2,rd2,by omega,rfl,rfl,rfl,?_,?_,?_,?_,?_,hz,hg,hrd⟩
      · simp (disch:=omega) only [upd_same,upd_ne,h0]
      · simp (disch:=omega) only [upd_same,upd_ne,h2]
      · simp (disch:=omega) only [upd_same,upd_ne,h3]
      · simp (disch:=omega) only [upd_same,upd_ne];rfl
      · rw [hw,sched,if_pos (by omega)]
    have hjl:j<4:=by omega
    repeat apply W.seq
    refine W.cond (b:=true) ?_ ?_
    · simp (disch:=omega) only [ev_tmp,get_of,upd_same,upd_ne,hlj,decide_true,decide_false]
    simp only [cond_true,cond_false]
    apply W.skip
    simp only [onN,onB]
    have hbt:=hcs (4*t+j) (by omega)
    rw [show off+(4*t+j)=off+4*t+j by omega] at hbt
    have hlw:((sched bs t).set t (word bs t j)).length=64:=by rw [List.length_set,sched_len]
    have B1:=ld_one (n:=n+2) (lim:=lim) (rd:=rd2) (wr:=wr) (ti5 ax) rfl (g:=g2) (f:=fb) (u:=ub) (off:=off+4*t+j) (cs:=cs) (by rw [hg fb hbl];exact hrow) hbt
    have A1:=ld_one (n:=n+2) (lim:=lim) (rd:=ins lim rd2 fb) (wr:=wr) (ti68 ax) rfl (g:=g2) (f:=n+1) (u:=(n+1)*1024+0) (off:=0+t) (cs:=wvs ((sched bs t).set t (word bs t j))) (by rw [hw];exact rowOf_one) (by rw [Nat.zero_add];exact wvs_get (by omega))
    rw [ins_ge (f:=n+1) _ (by omega),getD_set_same (by rw [sched_len];omega)] at A1
    have C1:=fun v hv=>st_one (n:=n+2) (lim:=lim) (rd:=ins lim rd2 fb) (wr:=wr) (ti68 ax) (g:=g2) (f:=n+1) (u:=(n+1)*1024+0) (off:=0+t) (v:=v) hw (by rw [wvs_len];omega) hv
    simp only [ins_ge (f:=n+1) _ (show lim≤n+1 by omega)] at C1
    repeat apply W.seq
    apply W.block
    repeat apply W.seq
    apply W.region
    · simp (disch:=first|omega | (simp (disch:=omega) [ev_tmp,ev_const,get_of,upd_same,upd_ne,h22,h24,Tryd.underlying3,Tryd.underlying47,Tryd.underlying5,Tryd.underlying68,Tryd.underlying43];done) | (apply inK_i64;omega) | (apply inK_u64;omega)) only [op_len,cond_true,cond_false,List.toList_toArray,List.map_cons,List.map_nil,some_map,none_map,ti3,ti47,ti5,ti68,ti43,h22,h24,natOf_nat,idx_sl (ti43 ax) (ti5 ax) hjl,B1,wB0,wB1]
      with_reducible rfl
    simp only [onN,onB]
    repeat apply W.seq
    apply W.region
    · simp (disch:=first|omega | (simp (disch:=omega) [ev_tmp,ev_const,get_of,upd_same,upd_ne,h3,h4,Tryd.underlying3,Tryd.underlying47,Tryd.underlying5,Tryd.underlying68,Tryd.underlying43];done) | (apply inK_i64;omega) | (apply inK_u64;omega)) only [op_len,cond_true,cond_false,List.toList_toArray,List.map_cons,List.map_nil,some_map,none_map,ti3,ti47,ti5,ti68,ti43,h3,h4,natOf_nat,idx_arr (ti90 ax) (ti68 ax) htl,A1,bw_shl_l,conv_bw (ti5 ax) (ti68 ax),bw_or,cells_vw,C1 _ (vw_one _),wB0,wB1]
      with_reducible rfl
    simp only [onN,onB]
    repeat apply W.seq
    apply W.region
    · simp (disch:=first|omega | (simp (disch:=omega) [ev_tmp,ev_const,get_of,upd_same,upd_ne,h24,Tryd.underlying3,Tryd.underlying47,Tryd.underlying5,Tryd.underlying68,Tryd.underlying43];done) | (apply inK_i64;omega) | (apply inK_u64;omega)) only [op_len,cond_true,cond_false,List.toList_toArray,List.map_cons,List.map_nil,some_map,none_map,ti3,ti47,ti5,ti68,ti43,oi_add,h24,wB0,wB1]
      with_reducible rfl
    simp only [onN,onB]
    refine ⟨4 - (j+1),by omega,j+1,_,_,_,by omega,rfl,rfl,rfl,?_,?_,?_,?_,?_,?_,?_,?_,?_,?_,?_,?_⟩
    · simp (disch:=omega) only [upd_same,upd_ne,h0]
    · simp (disch:=omega) only [upd_same,upd_ne,h2]
    · simp (disch:=omega) only [upd_same,upd_ne,h3]
    · simp (disch:=omega) only [upd_same,upd_ne,h4]
    · simp (disch:=omega) only [upd_same,upd_ne,h11]
    · simp (disch:=omega) only [upd_same,upd_ne,h22]
    · simp (disch:=omega) only [upd_same,upd_ne,h23]
    · simp (disch:=omega) only [upd_same,upd_ne];rfl
    · rw [fupd_same,Nat.zero_add,wvs_set,List.set_set];rfl
    · rw [fupd_ne _ _ _ _ (by omega)];exact hz
    · intro i hi;rw [fupd_ne _ _ _ _ (by omega)];exact hg i hi
    · intro x hx
      rcases mem_ins hx with hx|hx
      · exact hrd x hx
      · exact .inr hx
  repeat apply W.seq
  refine W.cond (b:=false) ?_ ?_
  · simp (disch:=omega) only [ev_tmp,get_of,upd_same,upd_ne,h16,decide_true,decide_false]
  simp only [cond_true,cond_false]
  apply W.skip
  simp only [onN,onB]
  have ht16:16≤t:=by omega
  have c15:(t:Int) - 15=((t - 15:Nat):Int):=by omega
  have c2:(t:Int) - 2=((t - 2:Nat):Int):=by omega
  have c16:(t:Int) - 16=((t - 16:Nat):Int):=by omega
  have c7:(t:Int) - 7=((t - 7:Nat):Int):=by omega
  have LQ:=fun (lim':Nat) (k:Nat) (hk:k<64)=>ld_q (n:=n+2) (ti68 ax) rfl (g:=g') (f:=n+1) (u:=(n+1)*1024+0) (off:=0+k) (cs:=wvs (sched bs t)) (by rw [hw];exact rowOf_one) (by rw [Nat.zero_add];exact wvs_get (by rw [sched_len];exact hk)) (by omega)
  have IG:=fun l=>ins_ge (m:=lim) (f:=n+1) l (by omega)
  repeat apply W.seq
  apply W.quiet
  · simp (disch:=first|omega | (simp (disch:=omega) [ev_tmp,ev_const,get_of,upd_same,upd_ne,h3,h11,Tryd.underlying3,Tryd.underlying47,Tryd.underlying5,Tryd.underlying68,Tryd.underlying43];done) | (apply inK_i64;omega) | (apply inK_u64;omega)) only [op_len,cond_true,cond_false,List.toList_toArray,List.map_cons,List.map_nil,some_map,none_map,ti3,ti47,ti5,ti68,ti43,quietC_cons,quietC_nil,inner_st,thenQ_same,thenQ_rd,h3,h11,oi_sub,c15,c2,natOf_nat,idx_arr (ti90 ax) (ti68 ax) (show t - 15<64 by omega),idx_arr (ti90 ax) (ti68 ax) (show t - 2<64 by omega),LQ 0 (t - 15) (by omega),LQ 0 (t - 2) (by omega),IG,wB0,wB1]
    with_reducible rfl
  simp only [onN,onB]
  have R7:∀ x s,callR Tryd.prog (EE ax) 76 [vw x,.int .i64 (-7)] s=some (vw (rotr32 x 7),s):=fun x s=>rotl_run ax hr x 7 (by omega) (by omega) s
  have R18:∀ x s,callR Tryd.prog (EE ax) 76 [vw x,.int .i64 (-18)] s=some (vw (rotr32 x 18),s):=fun x s=>rotl_run ax hr x 18 (by omega) (by omega) s
  have R17:∀ x s,callR Tryd.prog (EE ax) 76 [vw x,.int .i64 (-17)] s=some (vw (rotr32 x 17),s):=fun x s=>rotl_run ax hr x 17 (by omega) (by omega) s
  have R19:∀ x s,callR Tryd.prog (EE ax) 76 [vw x,.int .i64 (-19)] s=some (vw (rotr32 x 19),s):=fun x s=>rotl_run ax hr x 19 (by omega) (by omega) s
  repeat apply W.seq
  apply W.region
  · simp (disch:=first|omega | (simp (disch:=omega) [ev_tmp,ev_const,get_of,upd_same,upd_ne,Tryd.underlying3,Tryd.underlying47,Tryd.underlying5,Tryd.underlying68,Tryd.underlying43];done) | (apply inK_i64;omega) | (apply inK_u64;omega)) only [op_len,cond_true,cond_false,List.toList_toArray,List.map_cons,List.map_nil,some_map,none_map,ti3,ti47,ti5,ti68,ti43,R7,R18,bw_xor,bw_shr_l,wB0,wB1]
    with_reducible rfl
  simp only [onN,onB]
  repeat apply W.seq
  apply W.region
  · simp (disch:=first|omega | (simp (disch:=omega) [ev_tmp,ev_const,get_of,upd_same,upd_ne,Tryd.underlying3,Tryd.underlying47,Tryd.underlying5,Tryd.underlying68,Tryd.underlying43];done) | (apply inK_i64;omega) | (apply inK_u64;omega)) only [op_len,cond_true,cond_false,List.toList_toArray,List.map_cons,List.map_nil,some_map,none_map,ti3,ti47,ti5,ti68,ti43,R17,R19,bw_xor,bw_shr_l,wB0,wB1]
    with_reducible rfl
  simp only [onN,onB]
  have C1:=fun v hv=>st_q (n:=n+2) (ti68 ax) (g:=g') (f:=n+1) (u:=(n+1)*1024+0) (off:=0+t) (v:=v) hw (by rw [wvs_len,sched_len];omega) hv (by omega)
  repeat apply W.seq
  apply W.last
  · kernel_rfl
  · simp (disch:=first|omega | (simp (disch:=omega) [ev_tmp,ev_const,get_of,upd_same,upd_ne,h3,h11,Tryd.underlying3,Tryd.underlying47,Tryd.underlying5,Tryd.underlying68,Tryd.underlying43];done) | (apply inK_i64;omega) | (apply inK_u64;omega)) only [op_len,cond_true,cond_false,List.toList_toArray,List.map_cons,List.map_nil,some_map,none_map,ti3,ti47,ti5,ti68,ti43,quietL_cons,quietL_one,inner_st,thenL_same,thenL_rd,lastL_some,insAll_nil,insAll_cons,h3,h11,oi_sub,c16,c7,natOf_nat,idx_arr (ti90 ax) (ti68 ax) (show t - 16<64 by omega),idx_arr (ti90 ax) (ti68 ax) (show t - 7<64 by omega),idx_arr (ti90 ax) (ti68 ax) htl,LQ 0 (t - 16) (by omega),LQ 0 (t - 7) (by omega),IG,bw_add,cells_vw,C1 _ (vw_one _),wB0,wB1]
    with_reducible rfl
  simp only [onN,onB]
  repeat apply W.seq
  apply W.region
  · simp (disch:=first|omega | (simp (disch:=omega) [ev_tmp,ev_const,get_of,upd_same,upd_ne,h11,Tryd.underlying3,Tryd.underlying47,Tryd.underlying5,Tryd.underlying68,Tryd.underlying43];done) | (apply inK_i64;omega) | (apply inK_u64;omega)) only [op_len,cond_true,cond_false,List.toList_toArray,List.map_cons,List.map_nil,some_map,none_map,ti3,ti47,ti5,ti68,ti43,oi_add,h11,wB0,wB1]
    with_reducible rfl
  simp only [onN,onB]
  refine ⟨64 - (t+1),by omega,t+1,_,_,rd',by omega,rfl,rfl,rfl,?_,?_,?_,?_,?_,?_,?_,hrd⟩
  · simp (disch:=omega) only [upd_same,upd_ne,h0]
  · simp (disch:=omega) only [upd_same,upd_ne,h2]
  · simp (disch:=omega) only [upd_same,upd_ne,h3]
  · simp (disch:=omega) only [upd_same,upd_ne];rfl
  · rw [fupd_same,Nat.zero_add,wvs_set,sched,if_neg (by omega)];rfl
  · rw [fupd_ne _ _ _ _ (by omega)];exact hz
  · intro i hi;rw [fupd_ne _ _ _ _ (by omega)];exact hg i hi
end Go.Proofs.YtcgdomhednbdpaaDoor
