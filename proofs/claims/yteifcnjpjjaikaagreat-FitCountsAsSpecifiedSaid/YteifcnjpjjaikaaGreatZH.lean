/- Part 8 of the proof of FitCountsAsSpecified (several texts in one; no further condition). -/
import Derived.Test.YteifcnjpjjaikaaGreatZE
import Derived.Test.YteifcnjpjjaikaaGreatZF
import Derived.Test.YteifcnjpjjaikaaGreatZG
import Derived.WalkKit
import Derived.Laws.BitsAllLaws
import Derived.Test.YteifcnjpjjaikaaGreatRows
set_option linter.unusedSimpArgs false
set_option linter.unusedVariables false
set_option linter.unusedSectionVars false
namespace Go.Proofs.YteifcnjpjjaikaaGreat
set_option maxHeartbeats 8000000
open _root_.BitVec renaming ofInt->ge,toNat_and->m4,toNat_ofInt->k9,toNat_ofNat->ne
open _root_.Bool renaming and_self->et,eq_iff_iff->mc,false_eq_true->jd,not_false->gc,not_true->f6,true_and->iw
open Go.IntKind renaming i64->dw
open _root_.List renaming all_eq_true->ez,append_assoc->fe,append_nil->fj,cons_append->fd,drop_succ_cons->ir,drop_zero->fp,findSome?_cons->ln,flatten_cons->fm,flatten_nil->io,getD_eq_getElem?_getD->ef,getElem?_eq_getElem->dv,getElem?_eq_none->ic,getElem_mem->fo,length_append->er,length_cons->eh,length_map->ec,length_nil->gh,mem_range->jx,mem_singleton->kb,nil_append->ff,range->jc,range'->n8,range'_succ->ov,replicate->ew,take_of_length_le->fk
open _root_.Nat renaming add_zero->gm,and_le_left->mg,beq_refl->gw,lt_of_lt_of_le->ei,mod_eq_of_lt->lr,reduceAdd->ek,reduceEqDiff->ej,reduceLT->iv,reduceLeDiff->ny,reduceMul->i6,reduceSub->gt,zero_add->fz,zero_le->fw
open _root_.Option renaming bind_some->dq
open _root_.Option.some renaming injEq->dp
open Go.Proofs.YteifcnjpjjaikaaGreat.Pure renaming clr->fh
open Go.Proofs.YteifcnjpjjaikaaGreat.Sh renaming sz->n9,szL->mu
open _root_.Sum renaming elim->gr
open Go.Proofs.YteifcnjpjjaikaaGreat.T renaming cells->gd,idsL->fy,int->dy,str->l6
open Go.Proofs.YteifcnjpjjaikaaGreat.TW renaming block->fc,loopT->gy,seq->dn
open Go.Proofs.YteifcnjpjjaikaaGreat.zaj renaming call->ey
set_option maxRecDepth 100000
open Go Go.RowKit
noncomputable def axS:Axs:=z6y 8 (z4v (.bool true)) fun _=>none
theorem yqh:zmb Tryz.prog GG LL axS:=(zmb.none z8q).add (yqg (L:=LL) (ax:=fun _=>none) zqr (fn8 fun _=>none) rfl rfl yav)
theorem yoq:axS 8=some (z4v (.bool true)):=ybs _ _ _
theorem yhk:yot axS:=by
  refine ⟨fun f hf=>yjy _ _ fun h=>?_,rfl,rfl,fun A β s vargs hT hv=>?_⟩
  . subst h;rw [gw] at hf;cases hf
  . cases hv;exact ⟨.bool true,s,A,β,yjr (k:=z4v (.bool true)) yoq rfl,hT,.bool true,Stp.refl⟩
theorem ye5 {f:FuncId} {fn:Func} {body:Code} (hfn:(EE axS).fn.at f=some fn) (hb:fn.body=some body) {args:List T} {vs:Array Value} {W:World} (h:RtL W args vs.toList) (hp:Pure Tryz.prog (EE axS) [] f args (.bool true)) :
    Calls Tryz.prog f vs W fun e W'=>e=.returned (.bool true)/\Below W.heap.size W W':=by
  obtain ⟨A,xs,k⟩:=entL (N:=W.heap.size) (G:=GG) (K:=[]) rfl (fun p hp=>by simp at hp) (fun g hg=>by simp [has,GG] at hg) h [];have e:([]:List Seg)++A++[]=A:=by simp
  have kr:=k.vr [];have kl:=k.vl [];have ka:=k.at_ [];rw [e] at kr kl ka;obtain ⟨r1,r2,r3,r4⟩:=ycx (G:=GG) (N:=W.heap.size) (K:=[]) (A:=A) rfl (fun p hp=>by simp at hp) (fun p hp=>by simp at hp) (fun g hg=>by simp [has,GG] at hg) ka
  have hT:TRel [] (Low W.heap.size) bx0 ts0 (St (W.heap.size+A.length) (famS W.heap.size [] A) 0 [] []) :=
    ⟨⟨_,rfl⟩,r2,fun f hf=>by have:f<W.heap.size:=hf;show f<W.heap.size+A.length;omega,fun f hf=>absurd hf zjv,fun b b' l l' f hb=>by simp [bx0] at hb,fun b _=>rfl,fun b z N l hb=>by simp [ts0] at hb,fun b l hb=>by simp [ts0] at hb,fun x hx=>by simp at hx⟩
  obtain ⟨v,s2,A',β',e1,e2,e3,e4⟩:=hp.2.2 _ _ _ xs hT kl;cases e3;refine (yjo z5y zqr yqh hfn hb (args':=vs) e1 kr r1 r4 r2 r3).mono ?_;rintro e w' ⟨σ',v',rfl,k1,k2⟩;exact ⟨by rw [znu 3 rfl k1],k2⟩
theorem yju {w:Nat} (x y:BitVec w):x &&& ~~~y=x - (x &&& y):=by
  have h1:(x &&& ~~~y) &&& (x &&& y)=0#w:=by
    apply BitVec.eq_of_getLsbD_eq;intro i hi;simp only [BitVec.getLsbD_and,BitVec.getLsbD_not,hi,decide_true,iw,BitVec.getLsbD_zero];cases x.getLsbD i<;>cases y.getLsbD i<;>rfl
  have h2:(x &&& ~~~y) ||| (x &&& y)=x:=by
    apply BitVec.eq_of_getLsbD_eq;intro i hi;simp only [BitVec.getLsbD_or,BitVec.getLsbD_and,BitVec.getLsbD_not,hi,decide_true,iw];cases x.getLsbD i<;>cases y.getLsbD i<;>rfl
  have h3:=BitVec.add_eq_or_of_and_eq_zero _ _ h1;rw [h2] at h3;exact BitVec.eq_sub_iff_add_eq.2 h3
theorem zwe (w:Nat) {a b:Nat} (ha:a<2 ^ w) (hb:b<2 ^ w):a &&& (2 ^ w - 1 - b)=a - (a &&& b):=by
  have h:=congrArg BitVec.toNat (yju (BitVec.ofNat w a) (BitVec.ofNat w b));rw [m4,BitVec.toNat_not,ne,ne,lr ha,lr hb,BitVec.toNat_sub_of_le,m4,ne,ne,lr ha,lr hb] at h
  . exact h
  . rw [BitVec.le_def,m4];exact mg
theorem ybv {a b:Nat} (ha:a<9223372036854775808) (hb:b<9223372036854775808):bits .andNot .i64 (a:Int) (b:Int)=((a - (a &&& b):Nat):Int):=by
  have h:=zwe 64 (a:=a) (b:=b) (by omega) (by omega);show dw.wrap ((ge 64 (a:Int) &&& ~~~ge 64 (b:Int)).toNat:Int)=_;rw [m4,BitVec.toNat_not,k9,k9];rw [show ((a:Int) % ((2 ^ 64:Nat):Int)).toNat=a by omega,show ((b:Int) % ((2 ^ 64:Nat):Int)).toNat=b by omega,h];have hc:a - (a &&& b)<9223372036854775808:=by omega
  generalize a - (a &&& b)=c at *;simp [IntKind.wrap,IntKind.bits,IntKind.signed];split<;>omega
abbrev big:Nat:=9223372036854775808
theorem zgb (i:Nat) (h:i<9223372036854775807):dw.wrap ((i:Int)+1)=((i+1:Nat):Int):=by
  rw [wr64 (by omega)];push_cast;rfl
theorem zjy {α:Type} [Inhabited α] (l:List α) (i:Nat):gx l (i:Int)=l.getD i default:=rfl
theorem zcg {α:Type} [Inhabited α] {l:List α} {i:Nat} (h:i<l.length):gx l (i:Int)=l[i]:=by
  rw [zjy,ef,dv h];rfl
section
variable {α β σ:Type}
def sumO (o:Option β):β ⊕ Unit:=match o with|some b=>.inl b|none=>.inr ()
theorem zlf {L : Nat -> Int -> Option (β ⊕ Unit)} (n : Nat) (c : Nat -> Option β) (hn : n < big) (hs : ∀ m (j : Nat), j < n -> L (m + 1) (j : Int) = match c j with | some b => some (.inl b) | none => L m (dw.wrap ((j : Int) + 1)))
    (he:∀ m,L (m+1) (n:Int)=some (.inr ())) {k:Nat} (hk:n<k):L k 0=some (sumO ((jc n).findSome? c)):=by
  have key:∀ m j,j<=n->n - j<m->L m (j:Int)=some (sumO ((n8 j (n - j)).findSome? c)):=by
    intro m
    induction m with
    |zero=>intro j h1 h2;omega
    |succ m ih =>
      intro j h1 h2;by_cases hj:j<n
      . rw [hs m j hj,show n - j=(n - (j+1))+1 by omega,ov,ln]
        cases hc:c j with
        |some b=>rfl
        |none =>
          simp only;rw [zgb j (by simp only [big] at hn;omega)];exact ih (j+1) (by omega) (by omega)
      . obtain rfl:j=n:=by omega
        rw [he,Nat.sub_self];rfl
  have:=key k 0 (fw _) (by omega);rw [List.range_eq_range'];exact this
theorem zsn {c:Nat->Option β} {d:α->Option β}:∀ (l:List α) (s:Nat),(∀ j (h:j<l.length),c (s+j)=d l[j])->(n8 s l.length).findSome? c=l.findSome? d
  |[],s,_=>rfl
  |x :: l,s,h=>by
    rw [eh,ov,ln,ln];have h0:=h 0 (by simp);rw [gm] at h0;rw [h0];simp only [List.getElem_cons_zero];rw [zsn l (s+1) fun j hj=>by have:=h (j+1) (by simpa using hj);rw [show s+(j+1)=s+1+j by omega] at this;simpa using this]
theorem ye2 {L : Nat -> Int -> Option (β ⊕ Unit)} (l : List α) (c : α -> Option β) (hn : l.length < big) (hs : ∀ m (j : Nat) (h : j < l.length), L (m + 1) (j : Int) = match c l[j] with | some b => some (.inl b) | none => L m (dw.wrap ((j : Int) + 1)))
    (he:∀ m,L (m+1) (l.length:Int)=some (.inr ())) {k:Nat} (hk:l.length<k):L k 0=some (sumO (l.findSome? c)):=by
  rw [zlf l.length (fun j=>if h:j<l.length then c l[j] else none) hn (fun m j h=>by rw [hs m j h,dif_pos h]) he hk,List.range_eq_range'];rw [zsn l 0 fun j h=>by rw [fz,dif_pos h]]
theorem znc {c:α->Option β} {b:β} {q:α->Bool}:∀ (l:List α),(∀ x,x∈l->c x=if q x=true then none else some b)->l.findSome? c=if l.all q=true then none else some b
  |[],_=>rfl
  |x :: l,h=>by
    rw [ln,h x (.head _),List.all_cons]
    cases hq:q x with
    |true=>simp only [if_true,iw];exact znc l fun y hy=>h y (.tail _ hy)
    |false=>rfl
theorem zlz {L:Nat->Int->Option (β ⊕ Unit)} (l:List α) (b:β) (q:α->Bool) (hn:l.length<big) (hs:∀ m (j:Nat) (h:j<l.length),L (m+1) (j:Int)=if q l[j]=true then L m (dw.wrap ((j:Int)+1)) else some (.inl b))
    (he:∀ m,L (m+1) (l.length:Int)=some (.inr ())) {k:Nat} (hk:l.length<k):L k 0=some (if l.all q=true then .inr () else .inl b):=by
  rw [ye2 l (fun x=>if q x=true then none else some b) hn (fun m j h=>by rw [hs m j h];cases q l[j]<;>rfl) he hk,znc l fun _ _=>rfl];cases l.all q<;>rfl
theorem zcz {L:Nat->Int->Option (β ⊕ Unit)} (n:Nat) (b:β) (q:Nat->Bool) (hn:n<big) (hs:∀ m (j:Nat),j<n->L (m+1) (j:Int)=if q j=true then L m (dw.wrap ((j:Int)+1)) else some (.inl b))
    (he:∀ m,L (m+1) (n:Int)=some (.inr ())) {k:Nat} (hk:n<k):L k 0=some (if (jc n).all q=true then .inr () else .inl b):=by
  rw [zlf n (fun x=>if q x=true then none else some b) hn (fun m j h=>by rw [hs m j h];cases q j<;>rfl) he hk,znc _ fun _ _=>rfl];cases (jc n).all q<;>rfl
theorem zwf {l:List α} {q:α->Bool}:l.all q=true↔∀ j (h:j<l.length),q l[j]=true:=by
  rw [ez];exact ⟨fun h j hj=>h _ (fo hj),fun h x hx=>by obtain ⟨j,hj,rfl⟩:=List.getElem_of_mem hx;exact h j hj⟩
def idxB (q:α->Bool) (l:List α):Int:=match l.findIdx? q with|some i=>(i:Int)|none=>-1
theorem zqg (q:α->Bool) (l:List α):decide (0<=idxB q l)=l.any q:=by
  unfold idxB
  cases h:l.findIdx? q with
  |none =>
    have:=List.findIdx?_eq_none_iff.1 h;have e:l.any q=false:=by rw [List.any_eq_false];intro x hx;simp [this x hx]
    rw [e];rfl
  |some i =>
    have:=List.findIdx?_isSome (xs:=l) (p:=q);rw [h] at this;rw [<- this];simp
theorem zlg {L:Nat->Int->Option (Int ⊕ Unit)} (l:List α) (q:α->Bool) (hn:l.length<big) (hs:∀ m (j:Nat) (h:j<l.length),L (m+1) (j:Int)=if q l[j]=true then some (.inl (j:Int)) else L m (dw.wrap ((j:Int)+1)))
    (he:∀ m,L (m+1) (l.length:Int)=some (.inr ())) {k:Nat} (hk:l.length<k):(L k 0).bind (fun o=>gr (fun r=>some r) (fun _=>some (-1)) o)=some (idxB q l):=by
  have h:=zlf (L:=L) l.length (fun (j:Nat)=>if (l[j]?).any q=true then some (j:Int) else none) hn (fun m j h=>by
    rw [hs m j h,dv h];rw [Option.any_some]
    cases q l[j]<;>rfl) he hk
  rw [h,dq,List.range_eq_range']
  have key:∀ (l2 pre:List α),(n8 pre.length l2.length).findSome? (fun (j:Nat)=>if ((pre++l2)[j]?).any q=true then some (j:Int) else none)=(l2.findIdx? q).map fun i=>((pre.length+i:Nat):Int):=by
    intro l2
    induction l2 with
    |nil=>intro pre;rfl
    |cons x l2 ih =>
      intro pre;rw [eh,ov,ln,List.findIdx?_cons];have e0:(pre++x :: l2)[pre.length]?=some x:=by rw [List.getElem?_append_right (Nat.le_refl _),Nat.sub_self];rfl
      rw [e0];rw [Option.any_some]
      cases hq:q x with
      |true=>simp
      |false =>
        simp only [jd,if_false];have:=ih (pre++[x]);rw [er,List.length_singleton,fe,List.singleton_append] at this;rw [this]
        cases l2.findIdx? q with
        |none=>rfl
        |some i=>simp;omega
  have:=key l [];simp only [gh,ff,fz] at this;rw [this];unfold idxB;cases l.findIdx? q<;>rfl
end
/-! words -/
theorem zqq {a b:Nat} (ha:a<9223372036854775808) (hb:b<9223372036854775808):iAnd .i64 (a:Int) (b:Int)=((a &&& b:Nat):Int):=by
  have h:a &&& b<=a:=mg;show dw.wrap ((ge 64 (a:Int) &&& ge 64 (b:Int)).toNat:Int)=_;rw [m4,k9,k9];rw [show ((a:Int) % ((2 ^ 64:Nat):Int)).toNat=a by omega,show ((b:Int) % ((2 ^ 64:Nat):Int)).toNat=b by omega];exact wr64 (by omega)
theorem yi4 {a b:Nat} (ha:a<9223372036854775808) (hb:b<9223372036854775808):iXor .i64 (a:Int) (b:Int)=((a ^^^ b:Nat):Int):=by
  have h:a ^^^ b<2 ^ 63:=Nat.xor_lt_two_pow (by omega) (by omega);show dw.wrap ((ge 64 (a:Int) ^^^ ge 64 (b:Int)).toNat:Int)=_;rw [BitVec.toNat_xor,k9,k9];rw [show ((a:Int) % ((2 ^ 64:Nat):Int)).toNat=a by omega,show ((b:Int) % ((2 ^ 64:Nat):Int)).toNat=b by omega];exact wr64 (by omega)
theorem yfr {a b:Nat} (ha:a<9223372036854775808) (hb:b<9223372036854775808):z6c .i64 (a:Int) (b:Int)=((a - (a &&& b):Nat):Int):=ybv ha hb
theorem own:ownKnob Tryz.prog.godebug=none:=by kernel_rfl
theorem z57:laidOutB Tryz.prog=true:=by kernel_rfl
def inI (x:Int):Prop:=-9223372036854775808<=x/\x<=9223372036854775807
theorem yj4 {x:Int} (h:(Lit.int .i64 x).wf=true):inI x:=by
  simp only [Lit.wf,decide_eq_true_eq,IntKind.wrap,IntKind.bits,IntKind.signed] at h;simp at h;have e1:dw.min=-9223372036854775808:=by decide
  have e2:dw.max=9223372036854775807:=by decide
  unfold inI;omega
theorem cf_i {t:T} (h:conf (.int .i64) t):∃ n,t=.int .i64 n/\inI n:=by
  obtain ⟨n,rfl,hw⟩:=h;exact ⟨n,rfl,yj4 hw⟩
theorem yog {t:T} (h:conf .bool t):∃ b,t=.bool b/\True:=by
  obtain ⟨b,rfl⟩:=h;exact ⟨b,rfl,trivial⟩
theorem z4d {t:T} (h:conf .str t):∃ s,t=.str s/\s.size<big:=by
  obtain ⟨s,rfl,hs⟩:=h;have hm:maxLen<big:=by decide
  exact ⟨s,rfl,by omega⟩
theorem ymk {n:Nat} {t:T} (h:conf (.arr .i64 n) t):∃ a:Ar n,t=.agg (a.l.map (dy .i64))/\∀ y,y∈a.l->inI y:=by
  obtain ⟨a,rfl,hw⟩:=h;exact ⟨a,rfl,fun y hy=>yj4 (hw y hy)⟩
theorem zi6 {α:Type} {f:α->T} {sh:Sh} {p:α->Prop} (hf:∀ t,conf sh t->∃ x,t=f x/\p x) {t:T} (h:conf (.slice sh) t):∃ l:List α,t=.lst sh.sz (l.map f)/\(l.length<big/\∀ x,x∈l->p x):=by
  obtain ⟨l,rfl,hl,hall⟩:=h;have hm:maxLen<big:=by decide
  have key:∀ l:List T,(∀ x,x∈l->conf sh x)->∃ m:List α,l=m.map f/\∀ x,x∈m->p x:=by
    intro l
    induction l with
    |nil=>intro _;exact ⟨[],rfl,fun x hx=>by simp at hx⟩
    |cons t l ih =>
      intro hc;obtain ⟨x,rfl,hp⟩:=hf t (hc t (by simp));obtain ⟨m,rfl,hm⟩:=ih fun y hy=>hc y (by simp [hy]);refine ⟨x :: m,rfl,fun y hy=>?_⟩;rcases List.mem_cons.1 hy with rfl|hy
      . exact hp
      . exact hm y hy
  obtain ⟨m,rfl,hp⟩:=key l hall;rw [ec] at hl;exact ⟨m,rfl,by omega,hp⟩
def zxm:Sh:=.struct [.str,.bool,(.int .i64),(.int .i64)]
def yj5 (x:Node):Prop:=x.name.size<big/\True/\inI x.rules/\inI x.entries
theorem yoi {t:T} (h:conf zxm t):∃ x:Node,t=zqx x/\yj5 x:=by
  obtain ⟨cs,rfl,x0,r0,rfl,h0,x1,r1,rfl,h1,x2,r2,rfl,h2,x3,r3,rfl,h3,rfl⟩:=h;obtain ⟨a0,rfl,q0⟩:=z4d h0;obtain ⟨a1,rfl,q1⟩:=yog h1;obtain ⟨a2,rfl,q2⟩:=cf_i h2;obtain ⟨a3,rfl,q3⟩:=cf_i h3;exact ⟨⟨a0,a1,a2,a3⟩,by first | (simp only [zqx,gd,n9,mu,zxm,fj,fd,ff,fe,gm,ek];done) | (simp only [zqx,gd,n9,mu,zxm,fj,fd,ff,fe,gm,ek];rfl),q0,q1,q2,q3⟩
def zxn:Sh:=.struct [(.int .i64),(.int .i64),(.int .i64)]
def yj6 (x:Link):Prop:=inI x.frm/\inI x.to/\inI x.cap
theorem yoj {t:T} (h:conf zxn t):∃ x:Link,t=zqy x/\yj6 x:=by
  obtain ⟨cs,rfl,x0,r0,rfl,h0,x1,r1,rfl,h1,x2,r2,rfl,h2,rfl⟩:=h;obtain ⟨a0,rfl,q0⟩:=cf_i h0;obtain ⟨a1,rfl,q1⟩:=cf_i h1;obtain ⟨a2,rfl,q2⟩:=cf_i h2;exact ⟨⟨a0,a1,a2⟩,by first | (simp only [zqy,gd,n9,mu,zxn,fj,fd,ff,fe,gm,ek];done) | (simp only [zqy,gd,n9,mu,zxn,fj,fd,ff,fe,gm,ek];rfl),q0,q1,q2⟩
def zxo:Sh:=.struct [.str,(.int .i64)]
def yj7 (x:Edge):Prop:=x.name.size<big/\inI x.node
theorem yok {t:T} (h:conf zxo t):∃ x:Edge,t=zqz x/\yj7 x:=by
  obtain ⟨cs,rfl,x0,r0,rfl,h0,x1,r1,rfl,h1,rfl⟩:=h;obtain ⟨a0,rfl,q0⟩:=z4d h0;obtain ⟨a1,rfl,q1⟩:=cf_i h1;exact ⟨⟨a0,a1⟩,by first | (simp only [zqz,gd,n9,mu,zxo,fj,fd,ff,fe,gm,ek];done) | (simp only [zqz,gd,n9,mu,zxo,fj,fd,ff,fe,gm,ek];rfl),q0,q1⟩
def yh9:Sh:=.struct [(.slice zxm),(.slice zxn),(.slice zxo)]
def ym2 (x:Net):Prop:=(x.nodes.length<big/\∀ y,y∈x.nodes->yj5 y)/\(x.links.length<big/\∀ y,y∈x.links->yj6 y)/\(x.edges.length<big/\∀ y,y∈x.edges->yj7 y)
theorem yqa {t:T} (h:conf yh9 t):∃ x:Net,t=eNet x/\ym2 x:=by
  obtain ⟨cs,rfl,x0,r0,rfl,h0,x1,r1,rfl,h1,x2,r2,rfl,h2,rfl⟩:=h;obtain ⟨a0,rfl,q0⟩:=zi6 (fun _ hh=>yoi hh) h0;obtain ⟨a1,rfl,q1⟩:=zi6 (fun _ hh=>yoj hh) h1;obtain ⟨a2,rfl,q2⟩:=zi6 (fun _ hh=>yok hh) h2;exact ⟨⟨a0,a1,a2⟩,by first | (simp only [eNet,zbn,zqx,zbo,zqy,zbp,zqz,gd,n9,mu,yh9,zxm,zxn,zxo,fj,fd,ff,fe,gm,ek];done) | (simp only [eNet,zbn,zqx,zbo,zqy,zbp,zqz,gd,n9,mu,yh9,zxm,zxn,zxo,fj,fd,ff,fe,gm,ek];rfl),q0,q1,q2⟩
def zrd:Sh:=.struct [(.int .i64),.str,(.slice .str),.str,(.int .i64),(.int .i64)]
def yb8 (x:zeo):Prop:=inI x.kind/\x.var.size<big/\(x.key.length<big/\∀ y,y∈x.key->y.size<big)/\x.field.size<big/\inI x.n/\inI x.m
theorem yjm {t:T} (h:conf zrd t):∃ x:zeo,t=zha x/\yb8 x:=by
  obtain ⟨cs,rfl,x0,r0,rfl,h0,x1,r1,rfl,h1,x2,r2,rfl,h2,x3,r3,rfl,h3,x4,r4,rfl,h4,x5,r5,rfl,h5,rfl⟩:=h;obtain ⟨a0,rfl,q0⟩:=cf_i h0;obtain ⟨a1,rfl,q1⟩:=z4d h1;obtain ⟨a2,rfl,q2⟩:=zi6 (fun _ hh=>z4d hh) h2;obtain ⟨a3,rfl,q3⟩:=z4d h3;obtain ⟨a4,rfl,q4⟩:=cf_i h4;obtain ⟨a5,rfl,q5⟩:=cf_i h5;exact ⟨⟨a0,a1,a2,a3,a4,a5⟩,by first | (simp only [zha,strs,gd,n9,mu,zrd,fj,fd,ff,fe,gm,ek];done) | (simp only [zha,strs,gd,n9,mu,zrd,fj,fd,ff,fe,gm,ek];rfl),q0,q1,q2,q3,q4,q5⟩
def zuc:Sh:=.struct [(.arr .i64 10),(.arr .i64 10)]
def ym1 (x:Pat):Prop:=(∀ y,y∈x.mask.l->inI y)/\(∀ y,y∈x.bits.l->inI y)
theorem yml {t:T} (h:conf zuc t):∃ x:Pat,t=ePat x/\ym1 x:=by
  obtain ⟨cs,rfl,x0,r0,rfl,h0,x1,r1,rfl,h1,rfl⟩:=h;obtain ⟨a0,rfl,q0⟩:=ymk h0;obtain ⟨a1,rfl,q1⟩:=ymk h1;exact ⟨⟨a0,a1⟩,by first | (simp only [ePat,gd,n9,mu,zuc,fj,fd,ff,fe,gm,ek];done) | (simp only [ePat,gd,n9,mu,zuc,fj,fd,ff,fe,gm,ek];rfl),q0,q1⟩
def z12:Sh:=.struct [(.int .i64),zuc]
def yo0 (x:Alt):Prop:=inI x.link/\ym1 x.mod
theorem yqb {t:T} (h:conf z12 t):∃ x:Alt,t=eAlt x/\yo0 x:=by
  obtain ⟨cs,rfl,x0,r0,rfl,h0,x1,r1,rfl,h1,rfl⟩:=h;obtain ⟨a0,rfl,q0⟩:=cf_i h0;obtain ⟨a1,rfl,q1⟩:=yml h1;exact ⟨⟨a0,a1⟩,by first | (simp only [eAlt,ePat,gd,n9,mu,z12,zuc,fj,fd,ff,fe,gm,ek];done) | (simp only [eAlt,ePat,gd,n9,mu,z12,zuc,fj,fd,ff,fe,gm,ek];rfl),q0,q1⟩
def zxl:Sh:=.struct [(.int .i64),zuc,(.int .i64),(.slice (.slice z12))]
def yb9 (x:Rule):Prop:=inI x.prio/\ym1 x.mat/\inI x.step/\(x.outs.length<big/\∀ y,y∈x.outs->(y.length<big/\∀ y',y'∈y->yo0 y'))
theorem yoh {t:T} (h:conf zxl t):∃ x:Rule,t=ze9 x/\yb9 x:=by
  obtain ⟨cs,rfl,x0,r0,rfl,h0,x1,r1,rfl,h1,x2,r2,rfl,h2,x3,r3,rfl,h3,rfl⟩:=h;obtain ⟨a0,rfl,q0⟩:=cf_i h0;obtain ⟨a1,rfl,q1⟩:=yml h1;obtain ⟨a2,rfl,q2⟩:=cf_i h2;obtain ⟨a3,rfl,q3⟩:=zi6 (fun _ hh=>zi6 (fun _ hh=>yqb hh) hh) h3;exact ⟨⟨a0,a1,a2,a3⟩,by first | (simp only [ze9,ePat,zf4,lAlt,eAlt,gd,n9,mu,zxl,zuc,z12,fj,fd,ff,fe,gm,ek];done) | (simp only [ze9,ePat,zf4,lAlt,eAlt,gd,n9,mu,zxl,zuc,z12,fj,fd,ff,fe,gm,ek];rfl),q0,q1,q2,q3⟩
def zpy:Sh:=.struct [(.int .i64),(.slice (.slice zxl)),(.slice zrd)]
def zs6 (x:zaw):Prop:=inI x.version/\(x.tables.length<big/\∀ y,y∈x.tables->(y.length<big/\∀ y',y'∈y->yb9 y'))/\(x.steps.length<big/\∀ y,y∈x.steps->yb8 y)
theorem z4e {t:T} (h:conf zpy t):∃ x:zaw,t=zd5 x/\zs6 x:=by
  obtain ⟨cs,rfl,x0,r0,rfl,h0,x1,r1,rfl,h1,x2,r2,rfl,h2,rfl⟩:=h;obtain ⟨a0,rfl,q0⟩:=cf_i h0;obtain ⟨a1,rfl,q1⟩:=zi6 (fun _ hh=>zi6 (fun _ hh=>yoh hh) hh) h1;obtain ⟨a2,rfl,q2⟩:=zi6 (fun _ hh=>yjm hh) h2;exact ⟨⟨a0,a1,a2⟩,by first | (simp only [zd5,zam,zcp,ze9,zau,zha,gd,n9,mu,zpy,zuc,z12,zxl,zrd,fj,fd,ff,fe,gm,ek];done) | (simp only [zd5,zam,zcp,ze9,zau,zha,gd,n9,mu,zpy,zuc,z12,zxl,zrd,fj,fd,ff,fe,gm,ek];rfl),q0,q1,q2⟩
def za4 (k:Nat) (s_:List Int) (f_:Int->Option Bool):Nat->Int->Option (Int ⊕ Unit)
 |0,_=>none
 |m+1,i=>(if i<(s_.length:Int) then (if 0<=i/\i<(s_.length:Int) then ((f_ (gx s_ i)).bind fun r=>(if r=true then some (.inl i) else za4 k s_ f_ m (dw.wrap (i+1)))) else none) else some (.inr ()))
def zcw (k:Nat) (s_:List Int) (f_:Int->Option Bool):Option Int:=((za4 k s_ f_ k 0:Option (Int ⊕ Unit)).bind fun o=>gr (fun r=>some r) (fun s_2=>some (-1)) o)
theorem zkw (ax:Axs) (hx:NoAx ax) (k:Nat) (s_:List Int) (f_:Int->Option Bool) (v:Int) (H:zcw k s_ f_=some v) (f__f:Nat) (f__c:List T) (f__i:fy 0 f__c=true) (f__h:∀ (y0:Int) (w:Bool),f_ y0=some w->Pure Tryz.prog (EE ax) [] f__f ([]++[.int .i64 y0]++f__c) (.bool w)):Pure Tryz.prog (EE ax) [] 136 [ints s_,.fn f__f [] f__c] (.int .i64 v):=by
 rw [zcw] at H;refine en (ha:=by simp only [zfx,zfw,idsA,idsB,idsC,f__i,et]) [.tmp 4] 19 [0,1] (hx.no _ (by decide)) (fn136 ax) ?_;intro h hh;repeat apply dn
 refine rk [0,1] [] hh fun h hh=>?_;repeat apply dn
 refine rk [0,1,7,8] [] hh fun h hh=>?_;obtain ⟨o,H1,H⟩:=zad H;repeat apply dn
 refine cu [] 0 (fun h bs=>∃ s_2:Unit,o=.inr s_2/\(True)/\bs=[]) ?_ ?_
 .skip;repeat apply dn
  apply fc;repeat apply dn
  refine gy [0,1,7,8] (fun m h bs=>∃ (i:Int),za4 k s_ f_ m i=some o/\(h 0=ints s_/\h 1=.fn f__f [] f__c/\h 7=.int .i64 (s_.length:Int)/\h 8=.int .i64 i)/\bs=[]) ?_ k _ _ ?_;rotate_left
  .exact ⟨0,H1,kq hh,rfl⟩
  clear hh h H1;rintro m h bs ⟨i,H1,hh,rfl⟩;rcases m with _|m
  .rw [za4] at H1;cases H1
  rw [za4] at H1;repeat apply dn
  refine rk [0,1,7,8,9] [] hh fun h hh=>?_;rcases isp H1 with ⟨c1,H1⟩|⟨c1,H1⟩;rotate_left
  .skip;repeat apply dn
   refine cf (f2 hh (zAb c1)) ?_;refine xk ?_;cases H1;exact ce (f2 hh ((fun m=>zba (fw m) f__i))) ⟨_,rfl,kq hh,rfl⟩
  repeat apply dn
  refine ct (f2 hh (zAa c1)) ?_;repeat apply dn
  refine sk ?_;repeat apply dn
  apply fc;repeat apply dn
  refine rk [0,1,5,7,8] [] hh fun h hh=>?_;obtain ⟨g2,H1⟩:=isg H1;obtain ⟨r,e3,H1⟩:=zad H1;repeat apply dn
  refine rkp [0,1,5,7,8,16] [] [.bool r] (f2 hh (zae g2)) ?_ ?_
  .exact ⟨ey ((f__h (gx s_ i) r e3).call _),trivial⟩
  clear hh h;intro h hh;rcases isb H1 with ⟨c4,H1⟩|⟨c4,H1⟩;rotate_left
  .skip;repeat apply dn
   refine cf (f2 hh c4) ?_;repeat apply dn
   refine sk ?_;repeat apply dn
   refine rk [0,1,7,8] [] (f2 hh c4) fun h hh=>?_;exact rd m (f2 hh ((fun m=>zba (fw m) f__i))) ⟨(dw.wrap (i+1)),H1,kq hh,rfl⟩
  repeat apply dn
  refine ct (f2 hh c4) ?_;repeat apply dn
  refine rk [4] [] (f2 hh c4) fun h hh=>?_;cases H1;obtain rfl:=sinl H;exact rt hh
 clear hh h;rintro h bs ⟨s_2,rfl,hh,rfl⟩;replace H:=sinr H;repeat apply dn
 refine rk [4] [] hh fun h hh=>?_;cases H;exact rt hh
def zbw (k:Nat) (s_:List Int) (f_:Int->Option Bool):Option Bool:=((zcw k s_ f_).bind fun bf=>some (decide (0<=bf)))
theorem zjo (ax:Axs) (hx:NoAx ax) (k:Nat) (s_:List Int) (f_:Int->Option Bool) (v:Bool) (H:zbw k s_ f_=some v) (f__f:Nat) (f__c:List T) (f__i:fy 0 f__c=true) (f__h:∀ (y0:Int) (w:Bool),f_ y0=some w->Pure Tryz.prog (EE ax) [] f__f ([]++[.int .i64 y0]++f__c) (.bool w)):Pure Tryz.prog (EE ax) [] 134 [ints s_,.fn f__f [] f__c] (.bool v):=by
 rw [zbw] at H;refine en (ha:=by simp only [zfx,zfw,idsA,idsB,idsC,f__i,et]) [.tmp 4] 9 [0,1] (hx.no _ (by decide)) (fn134 ax) ?_;intro h hh;repeat apply dn
 refine rk [0,1] [] hh fun h hh=>?_;obtain ⟨bf,e1,H⟩:=zad H;repeat apply dn
 refine rkp [4] [] [.int .i64 bf] hh ?_ ?_
 .exact ⟨ey ((zkw ax hx k s_ f_ bf e1 f__f f__c f__i f__h).call _),trivial⟩
 clear hh h;intro h hh;cases H;exact rt hh
def zeh (k:Nat) (w:Int):Option Bool:=(if w<0 then some true else some (decide (65535<w)))
theorem zit (ax:Axs) (hx:NoAx ax) (k:Nat) (w:Int) (v:Bool) (H:zeh k w=some v):Pure Tryz.prog (EE ax) [] 135 [.int .i64 w] (.bool v):=by
 rw [zeh] at H;refine en [.tmp 2] 9 [0] (hx.no _ (by decide)) (fn135 ax) ?_;intro h hh;repeat apply dn
 refine rk [0] [] hh fun h hh=>?_;rcases isp H with ⟨c1,H⟩|⟨c1,H⟩;rotate_left
 .skip;repeat apply dn
  refine rk [2] [] (f2 hh (zAb c1)) fun h hh=>?_;cases H;exact rt hh
 repeat apply dn
 refine rk [2] [] (f2 hh (zAa c1)) fun h hh=>?_;cases H;exact rt hh
def zei (k:Nat) (h_:Ar 10):Option Bool:=((zbw k h_.l (fun y=>zeh k y)).bind fun bf=>some (!bf))
theorem zhk (ax:Axs) (hx:NoAx ax) (k:Nat) (h_:Ar 10) (v:Bool) (H:zei k h_=some v):Pure Tryz.prog (EE ax) [] 125 [.agg (h_.l.map (dy .i64))] (.bool v):=by
 rw [zei] at H;refine en [.tmp 2] 6 [0] (hx.no _ (by decide)) (fn125 ax) ?_;intro h hh;repeat apply dn
 refine rk [1] [] hh fun h hh=>?_;obtain ⟨bf,e1,H⟩:=zad H;repeat apply dn
 refine rkp [2] [] [.bool bf] hh ?_ ?_
 .exact ⟨(by have q:=ey (Pure.lend (S:=stL [.cells true 10 (h_.l.map (dy .i64))]) (args:=[.arr 0 1 0 10 10 10,.fn 135 [] []]) (zjo ax hx k h_.l (fun y=>zeh k y) bf e1 135 [] (by simp only [zfx,zfw,idsA,idsB,idsC,et]) (fun y w hw=>by first|exact zit ax hx k y w hw|exact (zit ax hx k y w hw))) (And.intro (yiz (fun _=>rfl) (by rfl) (Ar.len h_)) (And.intro (Or.inl rfl) (trivial))) rfl);exact q),trivial⟩
 clear hh h;intro h hh;cases H;exact rt hh
def zdk (k:Nat) (p:Pat):Nat->Int->Option (Bool ⊕ Unit)
 |0,_=>none
 |m+1,i=>(if i<10 then (if 0<=i/\i<(10:Int) then (if (z6c .i64 (gx p.bits.l i) (gx p.mask.l i))≠0 then some (.inl false) else zdk k p m (dw.wrap (i+1))) else none) else some (.inr ()))
def zhz (k:Nat) (p:Pat):Option Bool:=((((zei k p.mask).bind fun av=>(if av=true then ((zei k p.bits).bind fun bg=>some (!bg)) else some true)):Option Bool).bind fun s_=>(if s_=true then some false else ((zdk k p k 0:Option (Bool ⊕ Unit)).bind fun o=>gr (fun r=>some r) (fun s_2=>some true) o)))
theorem zfe (ax:Axs) (hx:NoAx ax) (k:Nat) (p:Pat) (v:Bool) (H:zhz k p=some v):Pure Tryz.prog (EE ax) [] 112 [ePat p] (.bool v):=by
 rw [zhz] at H;refine en [.tmp 2] 28 [0] (hx.no _ (by decide)) (fn112 ax) ?_;intro h hh;repeat apply dn
 refine rk [1] [] hh fun h hh=>?_;obtain ⟨s_,H1,H⟩:=zad H;repeat apply dn
 refine cu [1,13] 1 (fun h bs=>(h 1=.ptr 0 0 20/\h 13=.bool s_)/\bs=[.cells true 20 (p.mask.l.map (dy .i64)++(p.bits.l.map (dy .i64)))]) ?_ ?_
 .skip;obtain ⟨av,e1,H1⟩:=zad H1;rcases isb H1 with ⟨c2,H1⟩|⟨c2,H1⟩;rotate_left
  .skip;repeat apply dn
   refine rkp [1,13] [] [.bool av] (f2 hh c2) ?_ ?_
   .exact ⟨ey (fh (zhk ax hx k p.mask av e1 ) (by first|rfl|simp only [c2])),trivial⟩
   clear hh h;intro h hh;cases H1;exact ce hh ⟨kq hh,rfl⟩
  obtain ⟨bg,e3,H1⟩:=zad H1;repeat apply dn
  refine rkp [1,13] [] [.bool av,.bool bg] (f2 hh c2) ?_ ?_
  .exact ⟨ey (fh (zhk ax hx k p.mask av e1 ) (by first|rfl|simp only [c2])),ey (fh (zhk ax hx k p.bits bg e3 ) (by first|rfl|simp only [c2])),trivial⟩
  clear hh h;intro h hh;cases H1;exact ce hh ⟨kq hh,rfl⟩
 clear hh h;rintro h bs ⟨hh,rfl⟩;rcases isb H with ⟨c4,H⟩|⟨c4,H⟩;rotate_left
 .skip;repeat apply dn
  refine cf (f2 hh c4) ?_;repeat apply dn
  refine sk ?_;repeat apply dn
  refine rk [1,14] [] (f2 hh c4) fun h hh=>?_;obtain ⟨o,H1,H⟩:=zad H;repeat apply dn
  refine cu [] 1 (fun h bs=>∃ s_2:Unit,o=.inr s_2/\(True)/\bs=[.cells true 20 (p.mask.l.map (dy .i64)++(p.bits.l.map (dy .i64)))]) ?_ ?_
  .skip;repeat apply dn
   apply fc;repeat apply dn
   refine gy [1,14] (fun m h bs=>∃ (i:Int),zdk k p m i=some o/\(h 1=.ptr 0 0 20/\h 14=.int .i64 i)/\bs=[.cells true 20 (p.mask.l.map (dy .i64)++(p.bits.l.map (dy .i64)))]) ?_ k _ _ ?_;rotate_left
   .exact ⟨0,H1,kq hh,rfl⟩
   clear hh h H1;rintro m h bs ⟨i,H1,hh,rfl⟩;rcases m with _|m
   .rw [zdk] at H1;cases H1
   rw [zdk] at H1;repeat apply dn
   refine rk [1,14,15] [] (f2 hh c4) fun h hh=>?_;rcases isp H1 with ⟨c5,H1⟩|⟨c5,H1⟩;rotate_left
   .skip;repeat apply dn
    refine cf (f2 hh (zAb c5)) ?_;refine xk ?_;cases H1;exact ce hh ⟨_,rfl,kq hh,rfl⟩
   repeat apply dn
   refine ct (f2 hh (zAa c5)) ?_;repeat apply dn
   refine sk ?_;repeat apply dn
   apply fc;repeat apply dn
   refine rk [1,3,14] [] (f2 hh c4) fun h hh=>?_;obtain ⟨g6,H1⟩:=isg H1;repeat apply dn
   refine dk 8 [1,14,26] [] [] [] (f3 hh c4 (f2 (zmi (k:=.i64) (off:=10) (L:=(p.mask.l.map (dy .i64)++(p.bits.l.map (dy .i64)))) (r:=[]) p.bits g6) (zkr (k:=.i64) (L:=(p.mask.l.map (dy .i64)++(p.bits.l.map (dy .i64)))) (r:=(p.bits.l.map (dy .i64))) p.mask g6))) trivial trivial fun h hh=>?_;rcases isp H1 with ⟨c7,H1⟩|⟨c7,H1⟩;rotate_left
   .skip;repeat apply dn
    refine cf (f2 hh (zAb c7)) ?_;repeat apply dn
    refine sk ?_;repeat apply dn
    refine rk [1,14] [] (f2 hh c4) fun h hh=>?_;exact rd m hh ⟨(dw.wrap (i+1)),H1,kq hh,rfl⟩
   repeat apply dn
   refine ct (f2 hh (zAa c7)) ?_;repeat apply dn
   refine rk [2] [] (f2 hh c4) fun h hh=>?_;cases H1;obtain rfl:=sinl H;exact rt hh
  clear hh h;rintro h bs ⟨s_2,rfl,hh,rfl⟩;replace H:=sinr H;repeat apply dn
  refine rk [2] [] (f2 hh c4) fun h hh=>?_;cases H;exact rt hh
 repeat apply dn
 refine ct (f2 hh c4) ?_;repeat apply dn
 refine rk [2] [] (f2 hh c4) fun h hh=>?_;cases H;exact rt hh
def zgo (k:Nat) (m_:Pat):Option Bool:=((zhz k m_).bind fun ab=>some ab)
theorem zrg (ax:Axs) (hx:NoAx ax) (k:Nat) (m_:Pat) (v:Bool) (H:zgo k m_=some v):Pure Tryz.prog (EE ax) [] 109 [ePat m_] (.bool v):=by
 rw [zgo] at H;refine en [.tmp 2] 5 [0] (hx.no _ (by decide)) (fn109 ax) ?_;intro h hh;repeat apply dn
 refine rk [1] [] hh fun h hh=>?_;obtain ⟨ab,e1,H⟩:=zad H;repeat apply dn
 refine rkp [2] [] [.bool ab] hh ?_ ?_
 .exact ⟨ey ((zfe ax hx k m_ ab e1 ).call _),trivial⟩
 clear hh h;intro h hh;cases H;exact rt hh
def zby (k:Nat) (h_:Ar 10):Nat->Int->Option (Bool ⊕ Unit)
 |0,_=>none
 |m+1,i=>(if i<10 then (if 0<=i/\i<(10:Int) then (if (gx h_.l i)<0 then some (.inl false) else (if 65535<(gx h_.l i) then some (.inl false) else zby k h_ m (dw.wrap (i+1)))) else none) else some (.inr ()))
def zfc (k:Nat) (h_:Ar 10):Option Bool:=((zby k h_ k 0:Option (Bool ⊕ Unit)).bind fun o=>gr (fun r=>some r) (fun s_=>some true) o)
theorem zk4 (ax:Axs) (hx:NoAx ax) (k:Nat) (h_:Ar 10) (v:Bool) (H:zfc k h_=some v):Pure Tryz.prog (EE ax) [] 27 [.agg (h_.l.map (dy .i64))] (.bool v):=by
 rw [zfc] at H;refine en [.tmp 2] 18 [0] (hx.no _ (by decide)) (fn27 ax) ?_;intro h hh;repeat apply dn
 refine rk [1] [] hh fun h hh=>?_;repeat apply dn
 refine rk [1,3] [] hh fun h hh=>?_;obtain ⟨o,H1,H⟩:=zad H;repeat apply dn
 refine cu [] 1 (fun h bs=>∃ s_:Unit,o=.inr s_/\(True)/\bs=[.cells true 10 (h_.l.map (dy .i64))]) ?_ ?_
 .skip;repeat apply dn
  apply fc;repeat apply dn
  refine gy [1,3] (fun m h bs=>∃ (i:Int),zby k h_ m i=some o/\(h 1=.ptr 0 0 10/\h 3=.int .i64 i)/\bs=[.cells true 10 (h_.l.map (dy .i64))]) ?_ k _ _ ?_;rotate_left
  .exact ⟨0,H1,kq hh,rfl⟩
  clear hh h H1;rintro m h bs ⟨i,H1,hh,rfl⟩;rcases m with _|m
  .rw [zby] at H1;cases H1
  rw [zby] at H1;repeat apply dn
  refine rk [1,3,5] [] hh fun h hh=>?_;rcases isp H1 with ⟨c1,H1⟩|⟨c1,H1⟩;rotate_left
  .skip;repeat apply dn
   refine cf (f2 hh (zAb c1)) ?_;refine xk ?_;cases H1;exact ce hh ⟨_,rfl,kq hh,rfl⟩
  repeat apply dn
  refine ct (f2 hh (zAa c1)) ?_;repeat apply dn
  refine sk ?_;repeat apply dn
  apply fc;obtain ⟨g2,H1⟩:=isg H1;rcases isp H1 with ⟨c3,H1⟩|⟨c3,H1⟩;rotate_left
  .skip;repeat apply dn
   refine rk [1,3,17] [] (f3 hh (zAb c3) (arIx h_ g2)) fun h hh=>?_;rcases isp H1 with ⟨c4,H1⟩|⟨c4,H1⟩;rotate_left
   .skip;repeat apply dn
    refine cf (f2 hh (zAb c4)) ?_;repeat apply dn
    refine sk ?_;repeat apply dn
    refine rk [1,3] [] hh fun h hh=>?_;exact rd m hh ⟨(dw.wrap (i+1)),H1,kq hh,rfl⟩
   repeat apply dn
   refine ct (f2 hh (zAa c4)) ?_;repeat apply dn
   refine rk [2] [] hh fun h hh=>?_;cases H1;obtain rfl:=sinl H;exact rt hh
  repeat apply dn
  refine rk [1,3,17] [] (f3 hh (zAa c3) (arIx h_ g2)) fun h hh=>?_;repeat apply dn
  refine ct hh ?_;repeat apply dn
  refine rk [2] [] hh fun h hh=>?_;cases H1;obtain rfl:=sinl H;exact rt hh
 clear hh h;rintro h bs ⟨s_,rfl,hh,rfl⟩;replace H:=sinr H;repeat apply dn
 refine rk [2] [] hh fun h hh=>?_;cases H;exact rt hh
def zdj (k:Nat) (b:Ar 10) (m_:Ar 10):Nat->Int->Option (Bool ⊕ Unit)
 |0,_=>none
 |m+1,i=>(if i<10 then (if 0<=i/\i<(10:Int) then (if (iAnd .i64 (gx b.l i) (gx m_.l i))≠(gx b.l i) then some (.inl false) else zdj k b m_ m (dw.wrap (i+1))) else none) else some (.inr ()))
def zjr (k:Nat) (b:Ar 10) (m_:Ar 10):Option Bool:=((zdj k b m_ k 0:Option (Bool ⊕ Unit)).bind fun o=>gr (fun r=>some r) (fun s_=>some true) o)
theorem zwo (ax:Axs) (hx:NoAx ax) (k:Nat) (b:Ar 10) (m_:Ar 10) (v:Bool) (H:zjr k b m_=some v):Pure Tryz.prog (EE ax) [] 127 [.agg (b.l.map (dy .i64)),.agg (m_.l.map (dy .i64))] (.bool v):=by
 rw [zjr] at H;refine en [.tmp 4] 21 [0,1] (hx.no _ (by decide)) (fn127 ax) ?_;intro h hh;repeat apply dn
 refine rk [2,3] [] hh fun h hh=>?_;repeat apply dn
 refine rk [2,3,5] [] hh fun h hh=>?_;obtain ⟨o,H1,H⟩:=zad H;repeat apply dn
 refine cu [] 2 (fun h bs=>∃ s_:Unit,o=.inr s_/\(True)/\bs=[.cells true 10 (b.l.map (dy .i64)),.cells true 10 (m_.l.map (dy .i64))]) ?_ ?_
 .skip;repeat apply dn
  apply fc;repeat apply dn
  refine gy [2,3,5] (fun m h bs=>∃ (i:Int),zdj k b m_ m i=some o/\(h 2=.ptr 0 0 10/\h 3=.ptr 1 0 10/\h 5=.int .i64 i)/\bs=[.cells true 10 (b.l.map (dy .i64)),.cells true 10 (m_.l.map (dy .i64))]) ?_ k _ _ ?_;rotate_left
  .exact ⟨0,H1,kq hh,rfl⟩
  clear hh h H1;rintro m h bs ⟨i,H1,hh,rfl⟩;rcases m with _|m
  .rw [zdj] at H1;cases H1
  rw [zdj] at H1;repeat apply dn
  refine rk [2,3,5,7] [] hh fun h hh=>?_;rcases isp H1 with ⟨c1,H1⟩|⟨c1,H1⟩;rotate_left
  .skip;repeat apply dn
   refine cf (f2 hh (zAb c1)) ?_;refine xk ?_;cases H1;exact ce hh ⟨_,rfl,kq hh,rfl⟩
  repeat apply dn
  refine ct (f2 hh (zAa c1)) ?_;repeat apply dn
  refine sk ?_;repeat apply dn
  apply fc;obtain ⟨g2,H1⟩:=isg H1;repeat apply dn
  refine dk 10 [2,3,5,20] [] [] [] (f3 hh (arIx b g2) (arIx m_ g2)) trivial trivial fun h hh=>?_;rcases isp H1 with ⟨c3,H1⟩|⟨c3,H1⟩;rotate_left
  .skip;repeat apply dn
   refine cf (f2 hh (zAb c3)) ?_;repeat apply dn
   refine sk ?_;repeat apply dn
   refine rk [2,3,5] [] hh fun h hh=>?_;exact rd m hh ⟨(dw.wrap (i+1)),H1,kq hh,rfl⟩
  repeat apply dn
  refine ct (f2 hh (zAa c3)) ?_;repeat apply dn
  refine rk [4] [] hh fun h hh=>?_;cases H1;obtain rfl:=sinl H;exact rt hh
 clear hh h;rintro h bs ⟨s_,rfl,hh,rfl⟩;replace H:=sinr H;repeat apply dn
 refine rk [4] [] hh fun h hh=>?_;cases H;exact rt hh
def zjf (k:Nat) (p:Pat):Option Bool:=((zfc k p.mask).bind fun av=>((zfc k p.bits).bind fun bg=>(if av=true then (if bg=true then ((zjr k p.bits p.mask).bind fun ci=>some ci) else some false) else some false)))
theorem zpu (ax:Axs) (hx:NoAx ax) (k:Nat) (p:Pat) (v:Bool) (H:zjf k p=some v):Pure Tryz.prog (EE ax) [] 114 [ePat p] (.bool v):=by
 rw [zjf] at H;refine en [.tmp 2] 22 [0] (hx.no _ (by decide)) (fn114 ax) ?_;intro h hh;repeat apply dn
 refine rk [1] [] hh fun h hh=>?_;obtain ⟨av,e1,H⟩:=zad H;repeat apply dn
 refine rkp [1,3] [] [.bool av] hh ?_ ?_
 .exact ⟨ey ((zk4 ax hx k p.mask av e1 ).call _),trivial⟩
 clear hh h;intro h hh;obtain ⟨bg,e2,H⟩:=zad H;repeat apply dn
 refine rkp [1,3,4] [] [.bool bg] hh ?_ ?_
 .exact ⟨ey ((zk4 ax hx k p.bits bg e2 ).call _),trivial⟩
 clear hh h;intro h hh;rcases isb H with ⟨c3,H⟩|⟨c3,H⟩;rotate_left
 .skip;repeat apply dn
  refine rk [2] [] (f2 hh c3) fun h hh=>?_;cases H;exact rt hh
 rcases isb H with ⟨c4,H⟩|⟨c4,H⟩;rotate_left
 .skip;repeat apply dn
  refine rk [2] [] (f3 hh c3 c4) fun h hh=>?_;cases H;exact rt hh
 obtain ⟨ci,e5,H⟩:=zad H;repeat apply dn
 refine rkp [2] [] [.bool ci] (f3 hh c3 c4) ?_ ?_
 .exact ⟨ey (fh (zwo ax hx k p.bits p.mask ci e5 ) (by first|rfl|simp only [c3,c4])),trivial⟩
 clear hh h;intro h hh;cases H;exact rt hh
def zhh (k:Nat) (m_:Pat):Option Bool:=((zjf k (⟨m_.mask,m_.bits⟩:Pat)).bind fun ab=>some ab)
theorem zs0 (ax:Axs) (hx:NoAx ax) (k:Nat) (m_:Pat) (v:Bool) (H:zhh k m_=some v):Pure Tryz.prog (EE ax) [] 115 [ePat m_] (.bool v):=by
 rw [zhh] at H;refine en [.tmp 2] 9 [0] (hx.no _ (by decide)) (fn115 ax) ?_;intro h hh;repeat apply dn
 refine rk [1] [] hh fun h hh=>?_;obtain ⟨ab,e1,H⟩:=zad H;repeat apply dn
 refine rkp [2] [] [.bool ab] hh ?_ ?_
 .exact ⟨ey ((zpu ax hx k (⟨m_.mask,m_.bits⟩:Pat) ab e1 ).call _),trivial⟩
 clear hh h;intro h hh;cases H;exact rt hh
def zb2 (k:Nat) (a:Alt) (fv:Net):Option Bool:=(if a.link<(-1) then some true else (if (fv.links.length:Int)<=a.link then some true else ((zgo k a.mod).bind fun bh=>some (!bh))))
theorem zfj (ax:Axs) (hx:NoAx ax) (k:Nat) (a:Alt) (fv:Net) (v:Bool) (H:zb2 k a fv=some v):Pure Tryz.prog (EE ax) [] 108 [eAlt a,.cp [zbn fv.nodes,zbo fv.links,zbp fv.edges]] (.bool v):=by
 rw [zb2] at H;refine en [.tmp 3] 21 [0,1] (hx.no _ (by decide)) (fn108 ax) ?_;intro h hh;repeat apply dn
 refine rk [1,2] [] hh fun h hh=>?_;rcases isp H with ⟨c1,H⟩|⟨c1,H⟩;rotate_left
 .skip;rcases isp H with ⟨c2,H⟩|⟨c2,H⟩;rotate_left
  .skip;obtain ⟨bh,e3,H⟩:=zad H;repeat apply dn
   refine rkp [3] [] [.bool bh] (f3 hh (zAb c1) (zAb c2)) ?_ ?_
   .exact ⟨ey ((zrg ax hx k a.mod bh e3 ).call _),trivial⟩
   clear hh h;intro h hh;cases H;exact rt hh
  repeat apply dn
  refine rk [3] [] (f3 hh (zAb c1) (zAa c2)) fun h hh=>?_;cases H;exact rt hh
 repeat apply dn
 refine rk [3] [] (f2 hh (zAa c1)) fun h hh=>?_;cases H;exact rt hh
def za5 (k:Nat) (s_:List Alt) (f_:Alt->Option Bool):Nat->Int->Option (Int ⊕ Unit)
 |0,_=>none
 |m+1,i=>(if i<(s_.length:Int) then (if 0<=i/\i<(s_.length:Int) then ((f_ (gx s_ i)).bind fun r=>(if r=true then some (.inl i) else za5 k s_ f_ m (dw.wrap (i+1)))) else none) else some (.inr ()))
def zcx (k:Nat) (s_:List Alt) (f_:Alt->Option Bool):Option Int:=((za5 k s_ f_ k 0:Option (Int ⊕ Unit)).bind fun o=>gr (fun r=>some r) (fun s_2=>some (-1)) o)
theorem zkx (ax:Axs) (hx:NoAx ax) (k:Nat) (s_:List Alt) (f_:Alt->Option Bool) (v:Int) (H:zcx k s_ f_=some v) (f__f:Nat) (f__c:List T) (f__i:fy 0 f__c=true) (f__h:∀ (y0:Alt) (w:Bool),f_ y0=some w->Pure Tryz.prog (EE ax) [] f__f ([]++[eAlt y0]++f__c) (.bool w)):Pure Tryz.prog (EE ax) [] 124 [lAlt s_,.fn f__f [] f__c] (.int .i64 v):=by
 rw [zcx] at H;refine en (ha:=by simp only [zfx,zfw,idsA,idsB,idsC,f__i,et]) [.tmp 4] 19 [0,1] (hx.no _ (by decide)) (fn124 ax) ?_;intro h hh;repeat apply dn
 refine rk [0,1] [] hh fun h hh=>?_;repeat apply dn
 refine rk [0,1,7,8] [] hh fun h hh=>?_;obtain ⟨o,H1,H⟩:=zad H;repeat apply dn
 refine cu [] 0 (fun h bs=>∃ s_2:Unit,o=.inr s_2/\(True)/\bs=[]) ?_ ?_
 .skip;repeat apply dn
  apply fc;repeat apply dn
  refine gy [0,1,7,8] (fun m h bs=>∃ (i:Int),za5 k s_ f_ m i=some o/\(h 0=lAlt s_/\h 1=.fn f__f [] f__c/\h 7=.int .i64 (s_.length:Int)/\h 8=.int .i64 i)/\bs=[]) ?_ k _ _ ?_;rotate_left
  .exact ⟨0,H1,kq hh,rfl⟩
  clear hh h H1;rintro m h bs ⟨i,H1,hh,rfl⟩;rcases m with _|m
  .rw [za5] at H1;cases H1
  rw [za5] at H1;repeat apply dn
  refine rk [0,1,7,8,9] [] hh fun h hh=>?_;rcases isp H1 with ⟨c1,H1⟩|⟨c1,H1⟩;rotate_left
  .skip;repeat apply dn
   refine cf (f2 hh (zAb c1)) ?_;refine xk ?_;cases H1;exact ce (f2 hh ((fun m=>zba (fw m) f__i))) ⟨_,rfl,kq hh,rfl⟩
  repeat apply dn
  refine ct (f2 hh (zAa c1)) ?_;repeat apply dn
  refine sk ?_;repeat apply dn
  apply fc;repeat apply dn
  refine rk [0,1,5,7,8] [] hh fun h hh=>?_;obtain ⟨g2,H1⟩:=isg H1;obtain ⟨r,e3,H1⟩:=zad H1;repeat apply dn
  refine rkp [0,1,5,7,8,16] [] [.bool r] (f2 hh (zae g2)) ?_ ?_
  .exact ⟨ey ((f__h (gx s_ i) r e3).call _),trivial⟩
  clear hh h;intro h hh;rcases isb H1 with ⟨c4,H1⟩|⟨c4,H1⟩;rotate_left
  .skip;repeat apply dn
   refine cf (f2 hh c4) ?_;repeat apply dn
   refine sk ?_;repeat apply dn
   refine rk [0,1,7,8] [] (f2 hh c4) fun h hh=>?_;exact rd m (f2 hh ((fun m=>zba (fw m) f__i))) ⟨(dw.wrap (i+1)),H1,kq hh,rfl⟩
  repeat apply dn
  refine ct (f2 hh c4) ?_;repeat apply dn
  refine rk [4] [] (f2 hh c4) fun h hh=>?_;cases H1;obtain rfl:=sinl H;exact rt hh
 clear hh h;rintro h bs ⟨s_2,rfl,hh,rfl⟩;replace H:=sinr H;repeat apply dn
 refine rk [4] [] hh fun h hh=>?_;cases H;exact rt hh
def zbx (k:Nat) (s_:List Alt) (f_:Alt->Option Bool):Option Bool:=((zcx k s_ f_).bind fun al=>some (decide (0<=al)))
theorem zjp (ax:Axs) (hx:NoAx ax) (k:Nat) (s_:List Alt) (f_:Alt->Option Bool) (v:Bool) (H:zbx k s_ f_=some v) (f__f:Nat) (f__c:List T) (f__i:fy 0 f__c=true) (f__h:∀ (y0:Alt) (w:Bool),f_ y0=some w->Pure Tryz.prog (EE ax) [] f__f ([]++[eAlt y0]++f__c) (.bool w)):Pure Tryz.prog (EE ax) [] 111 [lAlt s_,.fn f__f [] f__c] (.bool v):=by
 rw [zbx] at H;refine en (ha:=by simp only [zfx,zfw,idsA,idsB,idsC,f__i,et]) [.tmp 4] 9 [0,1] (hx.no _ (by decide)) (fn111 ax) ?_;intro h hh;repeat apply dn
 refine rk [0,1] [] hh fun h hh=>?_;obtain ⟨al,e1,H⟩:=zad H;repeat apply dn
 refine rkp [4] [] [.int .i64 al] hh ?_ ?_
 .exact ⟨ey ((zkx ax hx k s_ f_ al e1 f__f f__c f__i f__h).call _),trivial⟩
 clear hh h;intro h hh;cases H;exact rt hh
def zee (k:Nat) (l:List Alt) (fv:Alt->Option Bool):Option Bool:=(if (l.length:Int)=0 then some true else (if 8<(l.length:Int) then some true else ((zbx k l fv).bind fun al=>some al)))
theorem zj5 (ax:Axs) (hx:NoAx ax) (k:Nat) (l:List Alt) (fv:Alt->Option Bool) (v:Bool) (H:zee k l fv=some v) (fv_f:Nat) (fv_c:List T) (fv_i:fy 0 fv_c=true) (fv_h:∀ (y0:Alt) (w:Bool),fv y0=some w->Pure Tryz.prog (EE ax) [] fv_f ([]++[eAlt y0]++fv_c) (.bool w)):Pure Tryz.prog (EE ax) [] 110 [lAlt l,.cp [.fn fv_f [] fv_c]] (.bool v):=by
 rw [zee] at H;refine en (ha:=by simp only [zfx,zfw,idsA,idsB,idsC,fv_i,et]) [.tmp 3] 17 [0,1] (hx.no _ (by decide)) (fn110 ax) ?_;intro h hh;repeat apply dn
 refine rk [0,1] [] hh fun h hh=>?_;rcases isp H with ⟨c1,H⟩|⟨c1,H⟩;rotate_left
 .skip;rcases isp H with ⟨c2,H⟩|⟨c2,H⟩;rotate_left
  .skip;obtain ⟨al,e3,H⟩:=zad H;repeat apply dn
   refine rkp [3] [] [.bool al] (f3 hh (zAb c1) (f2 (zAb c2) yqn)) ?_ ?_
   .exact ⟨ey ((zjp ax hx k l fv al e3 fv_f fv_c fv_i fv_h).call _),trivial⟩
   clear hh h;intro h hh;cases H;exact rt hh
  repeat apply dn
  refine rk [3] [] (f3 hh (zAb c1) (zAa c2)) fun h hh=>?_;cases H;exact rt hh
 repeat apply dn
 refine rk [3] [] (f2 hh (zAa c1)) fun h hh=>?_;cases H;exact rt hh
def za1 (k:Nat) (s_:List (List Alt)) (f_:(List Alt)->Option Bool):Nat->Int->Option (Int ⊕ Unit)
 |0,_=>none
 |m+1,i=>(if i<(s_.length:Int) then (if 0<=i/\i<(s_.length:Int) then ((f_ (gx s_ i)).bind fun r=>(if r=true then some (.inl i) else za1 k s_ f_ m (dw.wrap (i+1)))) else none) else some (.inr ()))
def zcl (k:Nat) (s_:List (List Alt)) (f_:(List Alt)->Option Bool):Option Int:=((za1 k s_ f_ k 0:Option (Int ⊕ Unit)).bind fun o=>gr (fun r=>some r) (fun s_2=>some (-1)) o)
theorem zkh (ax:Axs) (hx:NoAx ax) (k:Nat) (s_:List (List Alt)) (f_:(List Alt)->Option Bool) (v:Int) (H:zcl k s_ f_=some v) (f__f:Nat) (f__c:List T) (f__i:fy 0 f__c=true) (f__h:∀ (y0:List Alt) (w:Bool),f_ y0=some w->Pure Tryz.prog (EE ax) [] f__f ([]++[lAlt y0]++f__c) (.bool w)):Pure Tryz.prog (EE ax) [] 126 [zf4 s_,.fn f__f [] f__c] (.int .i64 v):=by
 rw [zcl] at H;refine en (ha:=by simp only [zfx,zfw,idsA,idsB,idsC,f__i,et]) [.tmp 4] 19 [0,1] (hx.no _ (by decide)) (fn126 ax) ?_;intro h hh;repeat apply dn
 refine rk [0,1] [] hh fun h hh=>?_;repeat apply dn
 refine rk [0,1,7,8] [] hh fun h hh=>?_;obtain ⟨o,H1,H⟩:=zad H;repeat apply dn
 refine cu [] 0 (fun h bs=>∃ s_2:Unit,o=.inr s_2/\(True)/\bs=[]) ?_ ?_
 .skip;repeat apply dn
  apply fc;repeat apply dn
  refine gy [0,1,7,8] (fun m h bs=>∃ (i:Int),za1 k s_ f_ m i=some o/\(h 0=zf4 s_/\h 1=.fn f__f [] f__c/\h 7=.int .i64 (s_.length:Int)/\h 8=.int .i64 i)/\bs=[]) ?_ k _ _ ?_;rotate_left
  .exact ⟨0,H1,kq hh,rfl⟩
  clear hh h H1;rintro m h bs ⟨i,H1,hh,rfl⟩;rcases m with _|m
  .rw [za1] at H1;cases H1
  rw [za1] at H1;repeat apply dn
  refine rk [0,1,7,8,9] [] hh fun h hh=>?_;rcases isp H1 with ⟨c1,H1⟩|⟨c1,H1⟩;rotate_left
  .skip;repeat apply dn
   refine cf (f2 hh (zAb c1)) ?_;refine xk ?_;cases H1;exact ce (f2 hh ((fun m=>zba (fw m) f__i))) ⟨_,rfl,kq hh,rfl⟩
  repeat apply dn
  refine ct (f2 hh (zAa c1)) ?_;repeat apply dn
  refine sk ?_;repeat apply dn
  apply fc;repeat apply dn
  refine rk [0,1,5,7,8] [] hh fun h hh=>?_;obtain ⟨g2,H1⟩:=isg H1;obtain ⟨r,e3,H1⟩:=zad H1;repeat apply dn
  refine rkp [0,1,5,7,8,16] [] [.bool r] (f2 hh (zae g2)) ?_ ?_
  .exact ⟨ey ((f__h (gx s_ i) r e3).call _),trivial⟩
  clear hh h;intro h hh;rcases isb H1 with ⟨c4,H1⟩|⟨c4,H1⟩;rotate_left
  .skip;repeat apply dn
   refine cf (f2 hh c4) ?_;repeat apply dn
   refine sk ?_;repeat apply dn
   refine rk [0,1,7,8] [] (f2 hh c4) fun h hh=>?_;exact rd m (f2 hh ((fun m=>zba (fw m) f__i))) ⟨(dw.wrap (i+1)),H1,kq hh,rfl⟩
  repeat apply dn
  refine ct (f2 hh c4) ?_;repeat apply dn
  refine rk [4] [] (f2 hh c4) fun h hh=>?_;cases H1;obtain rfl:=sinl H;exact rt hh
 clear hh h;rintro h bs ⟨s_2,rfl,hh,rfl⟩;replace H:=sinr H;repeat apply dn
 refine rk [4] [] hh fun h hh=>?_;cases H;exact rt hh
def zbs (k:Nat) (s_:List (List Alt)) (f_:(List Alt)->Option Bool):Option Bool:=((zcl k s_ f_).bind fun am=>some (decide (0<=am)))
theorem zi1 (ax:Axs) (hx:NoAx ax) (k:Nat) (s_:List (List Alt)) (f_:(List Alt)->Option Bool) (v:Bool) (H:zbs k s_ f_=some v) (f__f:Nat) (f__c:List T) (f__i:fy 0 f__c=true) (f__h:∀ (y0:List Alt) (w:Bool),f_ y0=some w->Pure Tryz.prog (EE ax) [] f__f ([]++[lAlt y0]++f__c) (.bool w)):Pure Tryz.prog (EE ax) [] 113 [zf4 s_,.fn f__f [] f__c] (.bool v):=by
 rw [zbs] at H;refine en (ha:=by simp only [zfx,zfw,idsA,idsB,idsC,f__i,et]) [.tmp 4] 9 [0,1] (hx.no _ (by decide)) (fn113 ax) ?_;intro h hh;repeat apply dn
 refine rk [0,1] [] hh fun h hh=>?_;obtain ⟨am,e1,H⟩:=zad H;repeat apply dn
 refine rkp [4] [] [.int .i64 am] hh ?_ ?_
 .exact ⟨ey ((zkh ax hx k s_ f_ am e1 f__f f__c f__i f__h).call _),trivial⟩
 clear hh h;intro h hh;cases H;exact rt hh
def zhd (k:Nat) (n:Net) (steps:Int) (r:Rule):Option Bool:=(if 1<=r.prio then (if r.prio<=65535 then ((zhz k r.mat).bind fun ab=>(if ab=true then (if (-1)<=r.step then (if r.step<steps then (if (r.outs.length:Int)<=16 then ((zbs k r.outs (fun y=>zee k y (fun y2=>zb2 k y2 n))).bind fun am=>some (!am)) else some false) else some false) else some false) else some false)) else some false) else some false)
theorem zmc (ax:Axs) (hx:NoAx ax) (k:Nat) (n:Net) (steps:Int) (r:Rule) (v:Bool) (H:zhd k n steps r=some v):Pure Tryz.prog (EE ax) [] 84 [eNet n,.int .i64 steps,ze9 r] (.bool v):=by
 rw [zhd] at H;refine en [.tmp 6] 48 [0,1,2] (hx.no _ (by decide)) (fn84 ax) ?_;intro h hh;repeat apply dn
 refine rk [1,3,5] [] hh fun h hh=>?_;refine zk 3 0 3 true [zbn n.nodes,zbo n.links,zbp n.edges] [1,3,5] hh fun h hh=>?_;repeat apply dn
 refine rk [1,5,7] [] (f2 hh yqn) fun h hh=>?_;refine zk 7 2 1 true [.fn 108 [] [.cp [zbn n.nodes,zbo n.links,zbp n.edges]]] [1,5,7] hh fun h hh=>?_;repeat apply dn
 refine rk [1,5,8] [] hh fun h hh=>?_;rcases isp H with ⟨c1,H⟩|⟨c1,H⟩;rotate_left
 .skip;repeat apply dn
  refine rk [6] [] (f2 hh (zAb c1)) fun h hh=>?_;cases H;exact rt hh
 rcases isp H with ⟨c2,H⟩|⟨c2,H⟩;rotate_left
 .skip;repeat apply dn
  refine rk [6] [] (f3 hh (zAa c1) (zAb c2)) fun h hh=>?_;cases H;exact rt hh
 obtain ⟨ab,e3,H⟩:=zad H;rcases isb H with ⟨c4,H⟩|⟨c4,H⟩;rotate_left
 .skip;repeat apply dn
  refine rkp [6] [] [.bool ab] (f3 hh (zAa c1) (f2 (zAa c2) c4)) ?_ ?_
  .exact ⟨ey (fh (zfe ax hx k r.mat ab e3 ) (by first|rfl|simp only [c4])),trivial⟩
  clear hh h;intro h hh;cases H;exact rt hh
 rcases isp H with ⟨c5,H⟩|⟨c5,H⟩;rotate_left
 .skip;repeat apply dn
  refine rkp [6] [] [.bool ab] (f3 hh (zAa c1) (f3 (zAa c2) c4 (zAb c5))) ?_ ?_
  .exact ⟨ey (fh (zfe ax hx k r.mat ab e3 ) (by first|rfl|simp only [c4])),trivial⟩
  clear hh h;intro h hh;cases H;exact rt hh
 rcases isp H with ⟨c6,H⟩|⟨c6,H⟩;rotate_left
 .skip;repeat apply dn
  refine rkp [6] [] [.bool ab] (f3 hh (zAa c1) (f3 (zAa c2) c4 (f2 (zAa c5) (zAb c6)))) ?_ ?_
  .exact ⟨ey (fh (zfe ax hx k r.mat ab e3 ) (by first|rfl|simp only [c4])),trivial⟩
  clear hh h;intro h hh;cases H;exact rt hh
 rcases isp H with ⟨c7,H⟩|⟨c7,H⟩;rotate_left
 .skip;repeat apply dn
  refine rkp [6] [] [.bool ab] (f3 hh (zAa c1) (f3 (zAa c2) c4 (f3 (zAa c5) (zAa c6) (zAb c7)))) ?_ ?_
  .exact ⟨ey (fh (zfe ax hx k r.mat ab e3 ) (by first|rfl|simp only [c4])),trivial⟩
  clear hh h;intro h hh;cases H;exact rt hh
 obtain ⟨am,e8,H⟩:=zad H;repeat apply dn
 refine rkp [6] [] [.bool ab,.bool am] (f3 hh (zAa c1) (f3 (zAa c2) c4 (f3 (zAa c5) (zAa c6) (zAa c7)))) ?_ ?_
 .exact ⟨ey (fh (zfe ax hx k r.mat ab e3 ) (by first|rfl|simp only [c4])),ey (fh (zi1 ax hx k r.outs (fun y=>zee k y (fun y2=>zb2 k y2 n)) am e8 110 [.cp [.fn 108 [] [.cp [zbn n.nodes,zbo n.links,zbp n.edges]]]] (by simp only [zfx,zfw,idsA,idsB,idsC,et]) (fun y w hw=>by first|exact zj5 ax hx k y (fun y2=>zb2 k y2 n) w hw 108 [.cp [zbn n.nodes,zbo n.links,zbp n.edges]] (by simp only [zfx,zfw,idsA,idsB,idsC,et]) (fun y2 w hw=>by first|exact zfj ax hx k y2 n w hw|exact (zfj ax hx k y2 n w hw))|exact (zj5 ax hx k y (fun y2=>zb2 k y2 n) w hw 108 [.cp [zbn n.nodes,zbo n.links,zbp n.edges]] (by simp only [zfx,zfw,idsA,idsB,idsC,et]) (fun y2 w hw=>by first|exact zfj ax hx k y2 n w hw|exact (zfj ax hx k y2 n w hw))))) (by first|rfl|simp only [c4])),trivial⟩
 clear hh h;intro h hh;cases H;exact rt hh
def zbj (k:Nat) (n:Net) (steps:Int) (t:List Rule):Nat->Int->Int->Option ((Int×Int) ⊕ Unit)
 |0,_,_=>none
 |m+1,last,i=>(if i<(t.length:Int) then (if 0<=i/\i<(t.length:Int) then ((((zhd k n steps (⟨(gx t i).prio,((gx t i).mat),(gx t i).step,(gx t i).outs⟩:Rule)).bind fun bt=>(if bt=true then some (decide (last<=((gx t i).prio))) else some true)):Option Bool).bind fun s_3=>(if s_3=true then some (.inl (i,1)) else zbj k n steps t m ((gx t i).prio) (dw.wrap (i+1)))) else none) else some (.inr ()))
def zib (k:Nat) (n:Net) (steps:Int) (t:List Rule):Option (Int×Int):=(((if steps<0 then some true else some (decide (1000<steps))):Option Bool).bind fun s_=>(if s_=true then some (0,1) else (if 4000<(t.length:Int) then some (0,2) else ((zbj k n steps t k 65536 0:Option ((Int×Int) ⊕ Unit)).bind fun o=>gr (fun r=>some r) (fun s_2=>some (0,0)) o))))
theorem zt4 (ax:Axs) (hx:NoAx ax) (k:Nat) (n:Net) (steps:Int) (t:List Rule) (v:Int×Int) (H:zib k n steps t=some v):Pure Tryz.prog (EE ax) [] 42 [eNet n,.int .i64 steps,zcp t] (tupT [.int .i64 v.1,.int .i64 v.2]):=by
 rw [zib] at H;refine enN [.tmp 6,.tmp 7] 44 [0,1,2] (hx.no _ (by decide)) (fn42 ax) ?_;intro h hh;repeat apply dn
 refine rk [1,2,3] [] hh fun h hh=>?_;repeat apply dn
 apply fc;obtain ⟨s_,H1,H⟩:=zad H;repeat apply dn
 refine cu [1,2,3,11] 1 (fun h bs=>(h 1=.int .i64 steps/\h 2=zcp t/\h 3=.ptr 0 0 3/\h 11=.bool s_)/\bs=[.cells true 3 [zbn n.nodes,zbo n.links,zbp n.edges]]) ?_ ?_
 .skip;rcases isp H1 with ⟨c1,H1⟩|⟨c1,H1⟩;rotate_left
  .skip;repeat apply dn
   refine rk [1,2,3,11] [] (f2 hh (zAb c1)) fun h hh=>?_;cases H1;exact ce hh ⟨kq hh,rfl⟩
  repeat apply dn
  refine rk [1,2,3,11] [] (f2 hh (zAa c1)) fun h hh=>?_;cases H1;exact ce hh ⟨kq hh,rfl⟩
 clear hh h;rintro h bs ⟨hh,rfl⟩;rcases isb H with ⟨c2,H⟩|⟨c2,H⟩;rotate_left
 .skip;repeat apply dn
  refine cf (f2 hh c2) ?_;repeat apply dn
  refine rk [1,2,3,18] [] (f2 hh c2) fun h hh=>?_;rcases isp H with ⟨c3,H⟩|⟨c3,H⟩;rotate_left
  .skip;repeat apply dn
   refine cf (f2 hh (zAb c3)) ?_;repeat apply dn
   refine sk ?_;repeat apply dn
   refine rk [1,2,3,8] [] (f2 hh c2) fun h hh=>?_;repeat apply dn
   refine rk [1,3,8,22,23,24] [] (f2 hh c2) fun h hh=>?_;obtain ⟨o,H1,H⟩:=zad H;repeat apply dn
   refine cu [] 1 (fun h bs=>∃ s_2:Unit,o=.inr s_2/\(True)/\bs=[.cells true 3 [zbn n.nodes,zbo n.links,zbp n.edges]]) ?_ ?_
   .skip;repeat apply dn
    apply fc;repeat apply dn
    refine gy [1,3,8,22,23,24] (fun m h bs=>∃ (last:Int) (i:Int),zbj k n steps t m last i=some o/\(h 1=.int .i64 steps/\h 3=.ptr 0 0 3/\h 8=.int .i64 last/\h 22=zcp t/\h 23=.int .i64 (t.length:Int)/\h 24=.int .i64 i)/\bs=[.cells true 3 [zbn n.nodes,zbo n.links,zbp n.edges]]) ?_ k _ _ ?_;rotate_left
    .exact ⟨65536,0,H1,kq hh,rfl⟩
    clear hh h H1;rintro m h bs ⟨last,i,H1,hh,rfl⟩;rcases m with _|m
    .rw [zbj] at H1;cases H1
    rw [zbj] at H1;repeat apply dn
    refine rk [1,3,8,22,23,24,25] [] (f2 hh c2) fun h hh=>?_;rcases isp H1 with ⟨c4,H1⟩|⟨c4,H1⟩;rotate_left
    .skip;repeat apply dn
     refine cf (f2 hh (zAb c4)) ?_;refine xk ?_;cases H1;exact ce hh ⟨_,rfl,kq hh,rfl⟩
    repeat apply dn
    refine ct (f2 hh (zAa c4)) ?_;repeat apply dn
    refine sk ?_;repeat apply dn
    apply fc;obtain ⟨g5,H1⟩:=isg H1;repeat apply dn
    refine rk [1,3,8,9,10,22,23,24] [] (f3 hh c2 (zae g5)) fun h hh=>?_;obtain ⟨s_3,H2,H1⟩:=zad H1;repeat apply dn
    refine cu [1,3,9,10,22,23,24,39] 2 (fun h bs=>(h 1=.int .i64 steps/\h 3=.ptr 0 0 3/\h 9=.int .i64 i/\h 10=.ptr 1 0 23/\h 22=zcp t/\h 23=.int .i64 (t.length:Int)/\h 24=.int .i64 i/\h 39=.bool s_3)/\bs=[.cells true 3 [zbn n.nodes,zbo n.links,zbp n.edges],.cells true 23 (dy .i64 ((gx t i).prio) :: ((((gx t i).mat).mask).l.map (dy .i64)++((((gx t i).mat).bits).l.map (dy .i64)++[dy .i64 ((gx t i).step),zf4 ((gx t i).outs)])))]) ?_ ?_
    .skip;obtain ⟨bt,e6,H2⟩:=zad H2;rcases isb H2 with ⟨c7,H2⟩|⟨c7,H2⟩;rotate_left
     .skip;repeat apply dn
      refine rkp [1,3,9,10,22,23,24,39] [] [.bool bt] (f3 hh c7 c2) ?_ ?_
      .exact ⟨ey (fh (zmc ax hx k n steps (⟨(gx t i).prio,((gx t i).mat),(gx t i).step,(gx t i).outs⟩:Rule) bt e6 ) (by first|rfl|simp only [c2,c7])),trivial⟩
      clear hh h;intro h hh;cases H2;exact ce hh ⟨kq hh,rfl⟩
     repeat apply dn
     refine rkp [1,3,9,10,22,23,24,39] [] [.bool bt] (f3 hh c7 c2) ?_ ?_
     .exact ⟨ey (fh (zmc ax hx k n steps (⟨(gx t i).prio,((gx t i).mat),(gx t i).step,(gx t i).outs⟩:Rule) bt e6 ) (by first|rfl|simp only [c2,c7])),trivial⟩
     clear hh h;intro h hh;cases H2;exact ce hh ⟨kq hh,rfl⟩
    clear hh h;rintro h bs ⟨hh,rfl⟩;rcases isb H1 with ⟨c8,H1⟩|⟨c8,H1⟩;rotate_left
    .skip;repeat apply dn
     refine cf (f2 hh c8) ?_;repeat apply dn
     refine sk ?_;repeat apply dn
     refine rk [1,3,8,22,23,24] [] (f3 hh c2 c8) fun h hh=>?_;repeat apply dn
     refine rk [1,3,8,22,23,24] [] (f3 hh c2 c8) fun h hh=>?_;exact rd m hh ⟨((gx t i).prio),(dw.wrap (i+1)),H1,kq hh,rfl⟩
    repeat apply dn
    refine ct (f2 hh c8) ?_;repeat apply dn
    refine rk [6,7] [] (f3 hh c2 c8) fun h hh=>?_;cases H1;obtain rfl:=sinl H;exact rt hh
   clear hh h;rintro h bs ⟨s_2,rfl,hh,rfl⟩;replace H:=sinr H;repeat apply dn
   refine rk [6,7] [] (f2 hh c2) fun h hh=>?_;cases H;exact rt hh
  repeat apply dn
  refine ct (f2 hh (zAa c3)) ?_;repeat apply dn
  refine rk [6,7] [] (f2 hh c2) fun h hh=>?_;cases H;exact rt hh
 repeat apply dn
 refine ct (f2 hh c2) ?_;repeat apply dn
 refine rk [6,7] [] (f2 hh c2) fun h hh=>?_;cases H;exact rt hh
def zdh (k:Nat) (n:Net) (r:Rule) (k_:Int):Nat->Int->Option (Bool ⊕ Unit)
 |0,_=>none
 |m+1,i=>(if 0<=k_/\k_<(r.outs.length:Int) then (if i<((gx r.outs k_).length:Int) then (if 0<=i/\i<((gx r.outs k_).length:Int) then ((zhh k ((gx (gx r.outs k_) i).mod)).bind fun bh=>(if ((gx (gx r.outs k_) i).link)<(-1) then some (.inl false) else (if (n.links.length:Int)<=((gx (gx r.outs k_) i).link) then some (.inl false) else (if bh=true then zdh k n r k_ m (dw.wrap (i+1)) else some (.inl false))))) else none) else some (.inr ())) else none)
def zdi (k:Nat) (n:Net) (r:Rule):Nat->Int->Option (Bool ⊕ Unit)
 |0,_=>none
 |m+1,k_=>(if k_<(r.outs.length:Int) then (((((if 0<=k_/\k_<(r.outs.length:Int) then (if ((gx r.outs k_).length:Int)<1 then some true else some (decide (8<((gx r.outs k_).length:Int)))) else none):Option Bool).bind fun s_4=>(if s_4=true then some (.inl false) else ((zdh k n r k_ k 0:Option (Bool ⊕ Unit)).bind fun o=>gr (fun r=>some (.inl r)) (fun s_5=>some (.inr ())) o))):Option (Bool ⊕ Unit)).bind fun o2=>gr (fun r=>some (.inl r)) (fun s_3=>zdi k n r m (dw.wrap (k_+1))) o2) else some (.inr ()))
def zjq (k:Nat) (n:Net) (steps:Int) (r:Rule):Option Bool:=((zjf k r.mat).bind fun ab=>(((if r.prio<1 then some true else (if 65535<r.prio then some true else (if ab=true then (if r.step<(-1) then some true else (if steps<=r.step then some true else some (decide (16<(r.outs.length:Int))))) else some true))):Option Bool).bind fun s_=>(if s_=true then some false else ((zdi k n r k 0:Option (Bool ⊕ Unit)).bind fun o3=>gr (fun r=>some r) (fun s_2=>some true) o3))))
theorem zwn (ax:Axs) (hx:NoAx ax) (k:Nat) (n:Net) (steps:Int) (r:Rule) (v:Bool) (H:zjq k n steps r=some v):Pure Tryz.prog (EE ax) [] 85 [eNet n,.int .i64 steps,ze9 r] (.bool v):=by
 rw [zjq] at H;refine en [.tmp 6] 103 [0,1,2] (hx.no _ (by decide)) (fn85 ax) ?_;intro h hh;repeat apply dn
 refine rk [1,3,5] [] hh fun h hh=>?_;obtain ⟨ab,e1,H⟩:=zad H;repeat apply dn
 refine rkp [1,3,5,7] [] [.bool ab] hh ?_ ?_
 .exact ⟨ey ((zpu ax hx k r.mat ab e1 ).call _),trivial⟩
 clear hh h;intro h hh;obtain ⟨s_,H1,H⟩:=zad H;repeat apply dn
 refine cu [3,5,43] 2 (fun h bs=>(h 3=.ptr 0 0 3/\h 5=.ptr 1 0 23/\h 43=.bool s_)/\bs=[.cells true 3 [zbn n.nodes,zbo n.links,zbp n.edges],.cells true 23 (dy .i64 r.prio :: (r.mat.mask.l.map (dy .i64)++(r.mat.bits.l.map (dy .i64)++[dy .i64 r.step,zf4 r.outs])))]) ?_ ?_
 .skip;rcases isp H1 with ⟨c2,H1⟩|⟨c2,H1⟩;rotate_left
  .skip;rcases isp H1 with ⟨c3,H1⟩|⟨c3,H1⟩;rotate_left
   .skip;rcases isb H1 with ⟨c4,H1⟩|⟨c4,H1⟩;rotate_left
    .skip;repeat apply dn
     refine rk [3,5,43] [] (f3 hh (zAb c2) (f2 (zAb c3) c4)) fun h hh=>?_;cases H1;exact ce hh ⟨kq hh,rfl⟩
    rcases isp H1 with ⟨c5,H1⟩|⟨c5,H1⟩;rotate_left
    .skip;rcases isp H1 with ⟨c6,H1⟩|⟨c6,H1⟩;rotate_left
     .skip;repeat apply dn
      refine rk [3,5,43] [] (f3 hh (zAb c2) (f3 (zAb c3) c4 (f2 (zAb c5) (zAb c6)))) fun h hh=>?_;cases H1;exact ce hh ⟨kq hh,rfl⟩
     repeat apply dn
     refine rk [3,5,43] [] (f3 hh (zAb c2) (f3 (zAb c3) c4 (f2 (zAb c5) (zAa c6)))) fun h hh=>?_;cases H1;exact ce hh ⟨kq hh,rfl⟩
    repeat apply dn
    refine rk [3,5,43] [] (f3 hh (zAb c2) (f3 (zAb c3) c4 (zAa c5))) fun h hh=>?_;cases H1;exact ce hh ⟨kq hh,rfl⟩
   repeat apply dn
   refine rk [3,5,43] [] (f3 hh (zAb c2) (zAa c3)) fun h hh=>?_;cases H1;exact ce hh ⟨kq hh,rfl⟩
  repeat apply dn
  refine rk [3,5,43] [] (f2 hh (zAa c2)) fun h hh=>?_;cases H1;exact ce hh ⟨kq hh,rfl⟩
 clear hh h;rintro h bs ⟨hh,rfl⟩;rcases isb H with ⟨c7,H⟩|⟨c7,H⟩;rotate_left
 .skip;repeat apply dn
  refine cf (f2 hh c7) ?_;repeat apply dn
  refine sk ?_;repeat apply dn
  refine rk [3,5,8] [] (f2 hh c7) fun h hh=>?_;obtain ⟨o3,H1,H⟩:=zad H;repeat apply dn
  refine cu [] 2 (fun h bs=>∃ s_2:Unit,o3=.inr s_2/\(True)/\bs=[.cells true 3 [zbn n.nodes,zbo n.links,zbp n.edges],.cells true 23 (dy .i64 r.prio :: (r.mat.mask.l.map (dy .i64)++(r.mat.bits.l.map (dy .i64)++[dy .i64 r.step,zf4 r.outs])))]) ?_ ?_
  .skip;repeat apply dn
   apply fc;repeat apply dn
   refine gy [3,5,8] (fun m h bs=>∃ (k_:Int),zdi k n r m k_=some o3/\(h 3=.ptr 0 0 3/\h 5=.ptr 1 0 23/\h 8=.int .i64 k_)/\bs=[.cells true 3 [zbn n.nodes,zbo n.links,zbp n.edges],.cells true 23 (dy .i64 r.prio :: (r.mat.mask.l.map (dy .i64)++(r.mat.bits.l.map (dy .i64)++[dy .i64 r.step,zf4 r.outs])))]) ?_ k _ _ ?_;rotate_left
   .exact ⟨0,H1,kq hh,rfl⟩
   clear hh h H1;rintro m h bs ⟨k_,H1,hh,rfl⟩;rcases m with _|m
   .rw [zdi] at H1;cases H1
   rw [zdi] at H1;repeat apply dn
   refine rk [3,5,8,48] [] (f2 hh c7) fun h hh=>?_;rcases isp H1 with ⟨c8,H1⟩|⟨c8,H1⟩;rotate_left
   .skip;repeat apply dn
    refine cf (f2 hh (zAb c8)) ?_;refine xk ?_;cases H1;exact ce hh ⟨_,rfl,kq hh,rfl⟩
   repeat apply dn
   refine ct (f2 hh (zAa c8)) ?_;repeat apply dn
   refine sk ?_;obtain ⟨o2,H2,H1⟩:=zad H1;repeat apply dn
   refine cu [3,5,8] 2 (fun h bs=>∃ s_3:Unit,o2=.inr s_3/\(h 3=.ptr 0 0 3/\h 5=.ptr 1 0 23/\h 8=.int .i64 k_)/\bs=[.cells true 3 [zbn n.nodes,zbo n.links,zbp n.edges],.cells true 23 (dy .i64 r.prio :: (r.mat.mask.l.map (dy .i64)++(r.mat.bits.l.map (dy .i64)++[dy .i64 r.step,zf4 r.outs])))]) ?_ ?_
   .skip;repeat apply dn
    apply fc;obtain ⟨s_4,H3,H2⟩:=zad H2;repeat apply dn
    refine cu [3,5,8,66] 2 (fun h bs=>(h 3=.ptr 0 0 3/\h 5=.ptr 1 0 23/\h 8=.int .i64 k_/\h 66=.bool s_4)/\bs=[.cells true 3 [zbn n.nodes,zbo n.links,zbp n.edges],.cells true 23 (dy .i64 r.prio :: (r.mat.mask.l.map (dy .i64)++(r.mat.bits.l.map (dy .i64)++[dy .i64 r.step,zf4 r.outs])))]) ?_ ?_
    .skip;obtain ⟨g9,H3⟩:=isg H3;rcases isp H3 with ⟨c10,H3⟩|⟨c10,H3⟩;rotate_left
     .skip;repeat apply dn
      refine rk [3,5,8,66] [] (f3 hh (zAb c10) (f2 c7 (zae g9))) fun h hh=>?_;cases H3;exact ce hh ⟨kq hh,rfl⟩
     repeat apply dn
     refine rk [3,5,8,66] [] (f3 hh (zAa c10) (f2 c7 (zae g9))) fun h hh=>?_;cases H3;exact ce hh ⟨kq hh,rfl⟩
    clear hh h;rintro h bs ⟨hh,rfl⟩;rcases isb H2 with ⟨c11,H2⟩|⟨c11,H2⟩;rotate_left
    .skip;repeat apply dn
     refine cf (f2 hh c11) ?_;repeat apply dn
     refine sk ?_;repeat apply dn
     refine rk [3,5,8,9] [] (f3 hh c7 c11) fun h hh=>?_;obtain ⟨o,H3,H2⟩:=zad H2;repeat apply dn
     refine cu [3,5,8] 2 (fun h bs=>∃ s_5:Unit,o=.inr s_5/\(h 3=.ptr 0 0 3/\h 5=.ptr 1 0 23/\h 8=.int .i64 k_)/\bs=[.cells true 3 [zbn n.nodes,zbo n.links,zbp n.edges],.cells true 23 (dy .i64 r.prio :: (r.mat.mask.l.map (dy .i64)++(r.mat.bits.l.map (dy .i64)++[dy .i64 r.step,zf4 r.outs])))]) ?_ ?_
     .skip;repeat apply dn
      apply fc;repeat apply dn
      refine gy [3,5,8,9] (fun m h bs=>∃ (i:Int),zdh k n r k_ m i=some o/\(h 3=.ptr 0 0 3/\h 5=.ptr 1 0 23/\h 8=.int .i64 k_/\h 9=.int .i64 i)/\bs=[.cells true 3 [zbn n.nodes,zbo n.links,zbp n.edges],.cells true 23 (dy .i64 r.prio :: (r.mat.mask.l.map (dy .i64)++(r.mat.bits.l.map (dy .i64)++[dy .i64 r.step,zf4 r.outs])))]) ?_ k _ _ ?_;rotate_left
      .exact ⟨0,H3,kq hh,rfl⟩
      clear hh h H3;rintro m h bs ⟨i,H3,hh,rfl⟩;rcases m with _|m
      .rw [zdh] at H3;cases H3
      rw [zdh] at H3;obtain ⟨g12,H3⟩:=isg H3;repeat apply dn
      refine rk [3,5,8,9,74] [] (f3 hh c7 (f2 c11 (zae g12))) fun h hh=>?_;rcases isp H3 with ⟨c13,H3⟩|⟨c13,H3⟩;rotate_left
      .skip;repeat apply dn
       refine cf (f2 hh (zAb c13)) ?_;refine xk ?_;cases H3;exact ce hh ⟨_,rfl,kq hh,rfl⟩
      repeat apply dn
      refine ct (f2 hh (zAa c13)) ?_;repeat apply dn
      refine sk ?_;repeat apply dn
      apply fc;obtain ⟨g14,H3⟩:=isg H3;repeat apply dn
      refine rk [3,5,8,9,10] [] (f3 hh c7 (f3 c11 (zae g12) (zae g14))) fun h hh=>?_;obtain ⟨bh,e15,H3⟩:=zad H3;repeat apply dn
      refine rkp [3,5,8,9,10,11] [] [.bool bh] (f3 hh c7 c11) ?_ ?_
      .exact ⟨ey (fh (zs0 ax hx k ((gx (gx r.outs k_) i).mod) bh e15 ) (by first|rfl|simp only [c7,c11])),trivial⟩
      clear hh h;intro h hh;rcases isp H3 with ⟨c16,H3⟩|⟨c16,H3⟩;rotate_left
      .skip;rcases isp H3 with ⟨c17,H3⟩|⟨c17,H3⟩;rotate_left
       .skip;repeat apply dn
        refine rk [3,5,8,9,102] [] (f3 hh (zAb c16) (f3 (zAb c17) c7 c11)) fun h hh=>?_;rcases isb H3 with ⟨c18,H3⟩|⟨c18,H3⟩;rotate_left
        .skip;repeat apply dn
         refine ct (f2 hh c18) ?_;repeat apply dn
         refine rk [6] [] (f3 hh c7 (f2 c11 c18)) fun h hh=>?_;cases H3;obtain rfl:=sinm H2;obtain rfl:=sinm H1;obtain rfl:=sinl H;exact rt hh
        repeat apply dn
        refine cf (f2 hh c18) ?_;repeat apply dn
        refine sk ?_;repeat apply dn
        refine rk [3,5,8,9] [] (f3 hh c7 (f2 c11 c18)) fun h hh=>?_;exact rd m hh ⟨(dw.wrap (i+1)),H3,kq hh,rfl⟩
       repeat apply dn
       refine rk [3,5,8,9,102] [] (f3 hh (zAb c16) (f3 (zAa c17) c7 c11)) fun h hh=>?_;repeat apply dn
       refine ct hh ?_;repeat apply dn
       refine rk [6] [] (f3 hh c7 c11) fun h hh=>?_;cases H3;obtain rfl:=sinm H2;obtain rfl:=sinm H1;obtain rfl:=sinl H;exact rt hh
      repeat apply dn
      refine rk [3,5,8,9,102] [] (f3 hh (zAa c16) (f2 c7 c11)) fun h hh=>?_;repeat apply dn
      refine ct hh ?_;repeat apply dn
      refine rk [6] [] (f3 hh c7 c11) fun h hh=>?_;cases H3;obtain rfl:=sinm H2;obtain rfl:=sinm H1;obtain rfl:=sinl H;exact rt hh
     clear hh h;rintro h bs ⟨s_5,rfl,hh,rfl⟩;replace H2:=sinr H2;cases H2;exact ce hh ⟨_,rfl,kq hh,rfl⟩
    repeat apply dn
    refine ct (f2 hh c11) ?_;repeat apply dn
    refine rk [6] [] (f3 hh c7 c11) fun h hh=>?_;cases H2;obtain rfl:=sinm H1;obtain rfl:=sinl H;exact rt hh
   clear hh h;rintro h bs ⟨s_3,rfl,hh,rfl⟩;replace H1:=sinr H1;repeat apply dn
   refine rk [3,5,8] [] (f2 hh c7) fun h hh=>?_;exact rd m hh ⟨(dw.wrap (k_+1)),H1,kq hh,rfl⟩
  clear hh h;rintro h bs ⟨s_2,rfl,hh,rfl⟩;replace H:=sinr H;repeat apply dn
  refine rk [6] [] (f2 hh c7) fun h hh=>?_;cases H;exact rt hh
 repeat apply dn
 refine ct (f2 hh c7) ?_;repeat apply dn
 refine rk [6] [] (f2 hh c7) fun h hh=>?_;cases H;exact rt hh
def zcu (k:Nat) (n:Net) (steps:Int) (t:List Rule):Nat->Int->Option ((Int×Int) ⊕ Unit)
 |0,_=>none
 |m+1,k_=>(if k_<(t.length:Int) then (if 0<=k_/\k_<(t.length:Int) then ((zjq k n steps (gx t k_)).bind fun cj=>(if cj=true then (if 0<k_ then (if (0:Int)<=(dw.wrap (k_ - 1))/\(dw.wrap (k_ - 1))<(t.length:Int) then (if ((gx t (dw.wrap (k_ - 1))).prio)<=((gx t k_).prio) then some (.inl (k_,1)) else zcu k n steps t m (dw.wrap (k_+1))) else none) else zcu k n steps t m (dw.wrap (k_+1))) else some (.inl (k_,1)))) else none) else some (.inr ()))
def zk1 (k:Nat) (n:Net) (steps:Int) (t:List Rule):Option (Int×Int):=(((if steps<0 then some true else some (decide (1000<steps))):Option Bool).bind fun s_=>(if s_=true then some (0,1) else (if 4000<(t.length:Int) then some (0,2) else ((zcu k n steps t k 0:Option ((Int×Int) ⊕ Unit)).bind fun o=>gr (fun r=>some r) (fun s_2=>some (0,0)) o))))
theorem zz0 (ax:Axs) (hx:NoAx ax) (k:Nat) (n:Net) (steps:Int) (t:List Rule) (v:Int×Int) (H:zk1 k n steps t=some v):Pure Tryz.prog (EE ax) [] 43 [eNet n,.int .i64 steps,zcp t] (tupT [.int .i64 v.1,.int .i64 v.2]):=by
 rw [zk1] at H;refine enN [.tmp 6,.tmp 7] 53 [0,1,2] (hx.no _ (by decide)) (fn43 ax) ?_;intro h hh;repeat apply dn
 refine rk [1,2,3] [] hh fun h hh=>?_;obtain ⟨s_,H1,H⟩:=zad H;repeat apply dn
 refine cu [1,2,3,15] 1 (fun h bs=>(h 1=.int .i64 steps/\h 2=zcp t/\h 3=.ptr 0 0 3/\h 15=.bool s_)/\bs=[.cells true 3 [zbn n.nodes,zbo n.links,zbp n.edges]]) ?_ ?_
 .skip;rcases isp H1 with ⟨c1,H1⟩|⟨c1,H1⟩;rotate_left
  .skip;repeat apply dn
   refine rk [1,2,3,15] [] (f2 hh (zAb c1)) fun h hh=>?_;cases H1;exact ce hh ⟨kq hh,rfl⟩
  repeat apply dn
  refine rk [1,2,3,15] [] (f2 hh (zAa c1)) fun h hh=>?_;cases H1;exact ce hh ⟨kq hh,rfl⟩
 clear hh h;rintro h bs ⟨hh,rfl⟩;rcases isb H with ⟨c2,H⟩|⟨c2,H⟩;rotate_left
 .skip;repeat apply dn
  refine cf (f2 hh c2) ?_;repeat apply dn
  refine sk ?_;repeat apply dn
  refine rk [1,2,3,18] [] (f2 hh c2) fun h hh=>?_;rcases isp H with ⟨c3,H⟩|⟨c3,H⟩;rotate_left
  .skip;repeat apply dn
   refine cf (f2 hh (zAb c3)) ?_;repeat apply dn
   refine sk ?_;repeat apply dn
   refine rk [1,2,3,8] [] (f2 hh c2) fun h hh=>?_;obtain ⟨o,H1,H⟩:=zad H;repeat apply dn
   refine cu [] 1 (fun h bs=>∃ s_2:Unit,o=.inr s_2/\(True)/\bs=[.cells true 3 [zbn n.nodes,zbo n.links,zbp n.edges]]) ?_ ?_
   .skip;repeat apply dn
    apply fc;repeat apply dn
    refine gy [1,2,3,8] (fun m h bs=>∃ (k_:Int),zcu k n steps t m k_=some o/\(h 1=.int .i64 steps/\h 2=zcp t/\h 3=.ptr 0 0 3/\h 8=.int .i64 k_)/\bs=[.cells true 3 [zbn n.nodes,zbo n.links,zbp n.edges]]) ?_ k _ _ ?_;rotate_left
    .exact ⟨0,H1,kq hh,rfl⟩
    clear hh h H1;rintro m h bs ⟨k_,H1,hh,rfl⟩;rcases m with _|m
    .rw [zcu] at H1;cases H1
    rw [zcu] at H1;repeat apply dn
    refine rk [1,2,3,8,22] [] (f2 hh c2) fun h hh=>?_;rcases isp H1 with ⟨c4,H1⟩|⟨c4,H1⟩;rotate_left
    .skip;repeat apply dn
     refine cf (f2 hh (zAb c4)) ?_;refine xk ?_;cases H1;exact ce hh ⟨_,rfl,kq hh,rfl⟩
    repeat apply dn
    refine ct (f2 hh (zAa c4)) ?_;repeat apply dn
    refine sk ?_;repeat apply dn
    apply fc;obtain ⟨g5,H1⟩:=isg H1;obtain ⟨cj,e6,H1⟩:=zad H1;repeat apply dn
    refine dk 6 [1,2,3,8,9] [] [] [(.bool cj,stL [.cells true 3 [zbn n.nodes,zbo n.links,zbp n.edges]])] (f3 hh c2 (zae g5)) trivial ?_ ?_
    .exact ⟨ey (fh (zwn ax hx k n steps (gx t k_) cj e6 ) (by first|rfl|simp only [c2])),trivial⟩
    clear hh h;intro h hh;rcases isb H1 with ⟨c7,H1⟩|⟨c7,H1⟩;rotate_left
    .skip;repeat apply dn
     refine dk 17 [1,2,3,8,51] [] [] [] (f3 hh c7 c2) trivial trivial fun h hh=>?_;repeat apply dn
     refine ct hh ?_;repeat apply dn
     refine rk [6,7] [] (f3 hh c2 c7) fun h hh=>?_;cases H1;obtain rfl:=sinl H;exact rt hh
    rcases isp H1 with ⟨c8,H1⟩|⟨c8,H1⟩;rotate_left
    .skip;repeat apply dn
     refine dk 17 [1,2,3,8,51] [] [] [] (f3 hh c7 (f2 (zAb c8) c2)) trivial trivial fun h hh=>?_;repeat apply dn
     refine cf hh ?_;repeat apply dn
     refine sk ?_;repeat apply dn
     refine rk [1,2,3,8] [] (f3 hh c2 c7) fun h hh=>?_;exact rd m hh ⟨(dw.wrap (k_+1)),H1,kq hh,rfl⟩
    obtain ⟨g9,H1⟩:=isg H1;repeat apply dn
    refine dk 17 [1,2,3,8,51] [] [] [] (f3 hh c7 (f3 (zAa c8) c2 (f2 (zae g5) (zae g9)))) trivial trivial fun h hh=>?_;rcases isp H1 with ⟨c10,H1⟩|⟨c10,H1⟩;rotate_left
    .skip;repeat apply dn
     refine cf (f2 hh (zAb c10)) ?_;repeat apply dn
     refine sk ?_;repeat apply dn
     refine rk [1,2,3,8] [] (f3 hh c2 c7) fun h hh=>?_;exact rd m hh ⟨(dw.wrap (k_+1)),H1,kq hh,rfl⟩
    repeat apply dn
    refine ct (f2 hh (zAa c10)) ?_;repeat apply dn
    refine rk [6,7] [] (f3 hh c2 c7) fun h hh=>?_;cases H1;obtain rfl:=sinl H;exact rt hh
   clear hh h;rintro h bs ⟨s_2,rfl,hh,rfl⟩;replace H:=sinr H;repeat apply dn
   refine rk [6,7] [] (f2 hh c2) fun h hh=>?_;cases H;exact rt hh
  repeat apply dn
  refine ct (f2 hh (zAa c3)) ?_;repeat apply dn
  refine rk [6,7] [] (f2 hh c2) fun h hh=>?_;cases H;exact rt hh
 repeat apply dn
 refine ct (f2 hh c2) ?_;repeat apply dn
 refine rk [6,7] [] (f2 hh c2) fun h hh=>?_;cases H;exact rt hh
def zas (k:Nat) (s1:List Rule) (s2:List Rule) (eq:Rule->Rule->Option Bool):Nat->Int->Option (Bool ⊕ Unit)
 |0,_=>none
 |m+1,i=>(if i<(s1.length:Int) then (if 0<=i/\i<(s1.length:Int) then (if 0<=i/\i<(s2.length:Int) then ((eq (⟨(gx s1 i).prio,((gx s1 i).mat),(gx s1 i).step,(gx s1 i).outs⟩:Rule) (⟨(gx s2 i).prio,((gx s2 i).mat),(gx s2 i).step,(gx s2 i).outs⟩:Rule)).bind fun r=>(if r=true then zas k s1 s2 eq m (dw.wrap (i+1)) else some (.inl false))) else none) else none) else some (.inr ()))
def zcn (k:Nat) (s1:List Rule) (s2:List Rule) (eq:Rule->Rule->Option Bool):Option Bool:=(if (s1.length:Int)≠(s2.length:Int) then some false else ((zas k s1 s2 eq k 0:Option (Bool ⊕ Unit)).bind fun o=>gr (fun r=>some r) (fun s_=>some true) o))
theorem zkj (ax:Axs) (hx:NoAx ax) (k:Nat) (s1:List Rule) (s2:List Rule) (eq:Rule->Rule->Option Bool) (v:Bool) (H:zcn k s1 s2 eq=some v) (eq_f:Nat) (eq_c:List T) (eq_i:fy 0 eq_c=true) (eq_h:∀ (y0:Rule) (y1:Rule) (w:Bool),eq y0 y1=some w->Pure Tryz.prog (EE ax) [] eq_f ([]++[ze9 y0,ze9 y1]++eq_c) (.bool w)):Pure Tryz.prog (EE ax) [] 86 [zcp s1,zcp s2,.fn eq_f [] eq_c] (.bool v):=by
 rw [zcn] at H;refine en (ha:=by simp only [zfx,zfw,idsA,idsB,idsC,eq_i,et]) [.tmp 6] 32 [0,1,2] (hx.no _ (by decide)) (fn86 ax) ?_;intro h hh;repeat apply dn
 refine rk [0,1,2] [] hh fun h hh=>?_;repeat apply dn
 refine rk [0,1,2,14] [] hh fun h hh=>?_;rcases isp H with ⟨c1,H⟩|⟨c1,H⟩;rotate_left
 .skip;repeat apply dn
  refine cf (f2 hh (zAb c1)) ?_;repeat apply dn
  refine sk ?_;repeat apply dn
  refine rk [1,2,15,16,17] [] hh fun h hh=>?_;obtain ⟨o,H1,H⟩:=zad H;repeat apply dn
  refine cu [] 0 (fun h bs=>∃ s_:Unit,o=.inr s_/\(True)/\bs=[]) ?_ ?_
  .skip;repeat apply dn
   apply fc;repeat apply dn
   refine gy [1,2,15,16,17] (fun m h bs=>∃ (i:Int),zas k s1 s2 eq m i=some o/\(h 1=zcp s2/\h 2=.fn eq_f [] eq_c/\h 15=zcp s1/\h 16=.int .i64 (s1.length:Int)/\h 17=.int .i64 i)/\bs=[]) ?_ k _ _ ?_;rotate_left
   .exact ⟨0,H1,kq hh,rfl⟩
   clear hh h H1;rintro m h bs ⟨i,H1,hh,rfl⟩;rcases m with _|m
   .rw [zas] at H1;cases H1
   rw [zas] at H1;repeat apply dn
   refine rk [1,2,15,16,17,18] [] hh fun h hh=>?_;rcases isp H1 with ⟨c2,H1⟩|⟨c2,H1⟩;rotate_left
   .skip;repeat apply dn
    refine cf (f2 hh (zAb c2)) ?_;refine xk ?_;cases H1;exact ce (f2 hh ((fun m=>zba (fw m) eq_i))) ⟨_,rfl,kq hh,rfl⟩
   repeat apply dn
   refine ct (f2 hh (zAa c2)) ?_;repeat apply dn
   refine sk ?_;repeat apply dn
   apply fc;obtain ⟨g3,H1⟩:=isg H1;repeat apply dn
   refine rk [1,2,7,8,15,16,17] [] (f2 hh (zae g3)) fun h hh=>?_;obtain ⟨g4,H1⟩:=isg H1;repeat apply dn
   refine rk [1,2,8,9,15,16,17] [] (f2 hh (zae g4)) fun h hh=>?_;obtain ⟨r,e5,H1⟩:=zad H1;repeat apply dn
   refine rkp [1,2,15,16,17,30] [] [.bool r] hh ?_ ?_
   .exact ⟨ey ((eq_h (⟨(gx s1 i).prio,((gx s1 i).mat),(gx s1 i).step,(gx s1 i).outs⟩:Rule) (⟨(gx s2 i).prio,((gx s2 i).mat),(gx s2 i).step,(gx s2 i).outs⟩:Rule) r e5).call _),trivial⟩
   clear hh h;intro h hh;rcases isb H1 with ⟨c6,H1⟩|⟨c6,H1⟩;rotate_left
   .skip;repeat apply dn
    refine ct (f2 hh c6) ?_;repeat apply dn
    refine rk [6] [] (f2 hh c6) fun h hh=>?_;cases H1;obtain rfl:=sinl H;exact rt hh
   repeat apply dn
   refine cf (f2 hh c6) ?_;repeat apply dn
   refine sk ?_;repeat apply dn
   refine rk [1,2,15,16,17] [] (f2 hh c6) fun h hh=>?_;exact rd m (f2 hh ((fun m=>zba (fw m) eq_i))) ⟨(dw.wrap (i+1)),H1,kq hh,rfl⟩
  clear hh h;rintro h bs ⟨s_,rfl,hh,rfl⟩;replace H:=sinr H;repeat apply dn
  refine rk [6] [] hh fun h hh=>?_;cases H;exact rt hh
 repeat apply dn
 refine ct (f2 hh (zAa c1)) ?_;repeat apply dn
 refine rk [6] [] hh fun h hh=>?_;cases H;exact rt hh
def zat (k:Nat) (s1:List (List Alt)) (s2:List (List Alt)) (eq:(List Alt)->(List Alt)->Option Bool):Nat->Int->Option (Bool ⊕ Unit)
 |0,_=>none
 |m+1,i=>(if i<(s1.length:Int) then (if 0<=i/\i<(s1.length:Int) then (if 0<=i/\i<(s2.length:Int) then ((eq (gx s1 i) (gx s2 i)).bind fun r=>(if r=true then zat k s1 s2 eq m (dw.wrap (i+1)) else some (.inl false))) else none) else none) else some (.inr ()))
def zco (k:Nat) (s1:List (List Alt)) (s2:List (List Alt)) (eq:(List Alt)->(List Alt)->Option Bool):Option Bool:=(if (s1.length:Int)≠(s2.length:Int) then some false else ((zat k s1 s2 eq k 0:Option (Bool ⊕ Unit)).bind fun o=>gr (fun r=>some r) (fun s_=>some true) o))
theorem zkk (ax:Axs) (hx:NoAx ax) (k:Nat) (s1:List (List Alt)) (s2:List (List Alt)) (eq:(List Alt)->(List Alt)->Option Bool) (v:Bool) (H:zco k s1 s2 eq=some v) (eq_f:Nat) (eq_c:List T) (eq_i:fy 0 eq_c=true) (eq_h:∀ (y0:List Alt) (y1:List Alt) (w:Bool),eq y0 y1=some w->Pure Tryz.prog (EE ax) [] eq_f ([]++[lAlt y0,lAlt y1]++eq_c) (.bool w)):Pure Tryz.prog (EE ax) [] 128 [zf4 s1,zf4 s2,.fn eq_f [] eq_c] (.bool v):=by
 rw [zco] at H;refine en (ha:=by simp only [zfx,zfw,idsA,idsB,idsC,eq_i,et]) [.tmp 6] 32 [0,1,2] (hx.no _ (by decide)) (fn128 ax) ?_;intro h hh;repeat apply dn
 refine rk [0,1,2] [] hh fun h hh=>?_;repeat apply dn
 refine rk [0,1,2,14] [] hh fun h hh=>?_;rcases isp H with ⟨c1,H⟩|⟨c1,H⟩;rotate_left
 .skip;repeat apply dn
  refine cf (f2 hh (zAb c1)) ?_;repeat apply dn
  refine sk ?_;repeat apply dn
  refine rk [1,2,15,16,17] [] hh fun h hh=>?_;obtain ⟨o,H1,H⟩:=zad H;repeat apply dn
  refine cu [] 0 (fun h bs=>∃ s_:Unit,o=.inr s_/\(True)/\bs=[]) ?_ ?_
  .skip;repeat apply dn
   apply fc;repeat apply dn
   refine gy [1,2,15,16,17] (fun m h bs=>∃ (i:Int),zat k s1 s2 eq m i=some o/\(h 1=zf4 s2/\h 2=.fn eq_f [] eq_c/\h 15=zf4 s1/\h 16=.int .i64 (s1.length:Int)/\h 17=.int .i64 i)/\bs=[]) ?_ k _ _ ?_;rotate_left
   .exact ⟨0,H1,kq hh,rfl⟩
   clear hh h H1;rintro m h bs ⟨i,H1,hh,rfl⟩;rcases m with _|m
   .rw [zat] at H1;cases H1
   rw [zat] at H1;repeat apply dn
   refine rk [1,2,15,16,17,18] [] hh fun h hh=>?_;rcases isp H1 with ⟨c2,H1⟩|⟨c2,H1⟩;rotate_left
   .skip;repeat apply dn
    refine cf (f2 hh (zAb c2)) ?_;refine xk ?_;cases H1;exact ce (f2 hh ((fun m=>zba (fw m) eq_i))) ⟨_,rfl,kq hh,rfl⟩
   repeat apply dn
   refine ct (f2 hh (zAa c2)) ?_;repeat apply dn
   refine sk ?_;repeat apply dn
   apply fc;obtain ⟨g3,H1⟩:=isg H1;repeat apply dn
   refine rk [1,2,7,8,15,16,17] [] (f2 hh (zae g3)) fun h hh=>?_;obtain ⟨g4,H1⟩:=isg H1;repeat apply dn
   refine rk [1,2,8,9,15,16,17] [] (f2 hh (zae g4)) fun h hh=>?_;obtain ⟨r,e5,H1⟩:=zad H1;repeat apply dn
   refine rkp [1,2,15,16,17,30] [] [.bool r] hh ?_ ?_
   .exact ⟨ey ((eq_h (gx s1 i) (gx s2 i) r e5).call _),trivial⟩
   clear hh h;intro h hh;rcases isb H1 with ⟨c6,H1⟩|⟨c6,H1⟩;rotate_left
   .skip;repeat apply dn
    refine ct (f2 hh c6) ?_;repeat apply dn
    refine rk [6] [] (f2 hh c6) fun h hh=>?_;cases H1;obtain rfl:=sinl H;exact rt hh
   repeat apply dn
   refine cf (f2 hh c6) ?_;repeat apply dn
   refine sk ?_;repeat apply dn
   refine rk [1,2,15,16,17] [] (f2 hh c6) fun h hh=>?_;exact rd m (f2 hh ((fun m=>zba (fw m) eq_i))) ⟨(dw.wrap (i+1)),H1,kq hh,rfl⟩
  clear hh h;rintro h bs ⟨s_,rfl,hh,rfl⟩;replace H:=sinr H;repeat apply dn
  refine rk [6] [] hh fun h hh=>?_;cases H;exact rt hh
 repeat apply dn
 refine ct (f2 hh (zAa c1)) ?_;repeat apply dn
 refine rk [6] [] hh fun h hh=>?_;cases H;exact rt hh
def zbe (k:Nat) (s1:List Alt) (s2:List Alt):Nat->Int->Option (Bool ⊕ Unit)
 |0,_=>none
 |m+1,i=>(if i<(s1.length:Int) then (if 0<=i/\i<(s1.length:Int) then (if 0<=i/\i<(s2.length:Int) then (if (gx s1 i)=(gx s2 i) then zbe k s1 s2 m (dw.wrap (i+1)) else some (.inl false)) else none) else none) else some (.inr ()))
def zeg (k:Nat) (s1:List Alt) (s2:List Alt):Option Bool:=(if (s1.length:Int)≠(s2.length:Int) then some false else ((zbe k s1 s2 k 0:Option (Bool ⊕ Unit)).bind fun o=>gr (fun r=>some r) (fun s_=>some true) o))
theorem zn9 (ax:Axs) (hx:NoAx ax) (k:Nat) (s1:List Alt) (s2:List Alt) (v:Bool) (H:zeg k s1 s2=some v):Pure Tryz.prog (EE ax) [] 130 [lAlt s1,lAlt s2] (.bool v):=by
 rw [zeg] at H;refine en [.tmp 4] 26 [0,1] (hx.no _ (by decide)) (fn130 ax) ?_;intro h hh;repeat apply dn
 refine rk [0,1] [] hh fun h hh=>?_;repeat apply dn
 refine rk [0,1,10] [] hh fun h hh=>?_;rcases isp H with ⟨c1,H⟩|⟨c1,H⟩;rotate_left
 .skip;repeat apply dn
  refine cf (f2 hh (zAb c1)) ?_;repeat apply dn
  refine sk ?_;repeat apply dn
  refine rk [0,1,12,13] [] hh fun h hh=>?_;obtain ⟨o,H1,H⟩:=zad H;repeat apply dn
  refine cu [] 0 (fun h bs=>∃ s_:Unit,o=.inr s_/\(True)/\bs=[]) ?_ ?_
  .skip;repeat apply dn
   apply fc;repeat apply dn
   refine gy [0,1,12,13] (fun m h bs=>∃ (i:Int),zbe k s1 s2 m i=some o/\(h 0=lAlt s1/\h 1=lAlt s2/\h 12=.int .i64 (s1.length:Int)/\h 13=.int .i64 i)/\bs=[]) ?_ k _ _ ?_;rotate_left
   .exact ⟨0,H1,kq hh,rfl⟩
   clear hh h H1;rintro m h bs ⟨i,H1,hh,rfl⟩;rcases m with _|m
   .rw [zbe] at H1;cases H1
   rw [zbe] at H1;repeat apply dn
   refine rk [0,1,12,13,14] [] hh fun h hh=>?_;rcases isp H1 with ⟨c2,H1⟩|⟨c2,H1⟩;rotate_left
   .skip;repeat apply dn
    refine cf (f2 hh (zAb c2)) ?_;refine xk ?_;cases H1;exact ce hh ⟨_,rfl,kq hh,rfl⟩
   repeat apply dn
   refine ct (f2 hh (zAa c2)) ?_;repeat apply dn
   refine sk ?_;repeat apply dn
   apply fc;repeat apply dn
   refine rk [0,1,5,12,13] [] hh fun h hh=>?_;obtain ⟨g3,H1⟩:=isg H1;obtain ⟨g4,H1⟩:=isg H1;repeat apply dn
   refine dk 8 [0,1,12,13,24] [] [] [] (f3 hh (zae g3) (f2 (zae g4) ((yqj ax (gx s1 i) (gx s2 i)).2))) trivial trivial fun h hh=>?_;rcases isp H1 with ⟨c5,H1⟩|⟨c5,H1⟩;rotate_left
   .skip;repeat apply dn
    refine ct (f2 hh (zAb c5)) ?_;repeat apply dn
    refine rk [4] [] hh fun h hh=>?_;cases H1;obtain rfl:=sinl H;exact rt hh
   repeat apply dn
   refine cf (f2 hh (zAa c5)) ?_;repeat apply dn
   refine sk ?_;repeat apply dn
   refine rk [0,1,12,13] [] hh fun h hh=>?_;exact rd m hh ⟨(dw.wrap (i+1)),H1,kq hh,rfl⟩
  clear hh h;rintro h bs ⟨s_,rfl,hh,rfl⟩;replace H:=sinr H;repeat apply dn
  refine rk [4] [] hh fun h hh=>?_;cases H;exact rt hh
 repeat apply dn
 refine ct (f2 hh (zAa c1)) ?_;repeat apply dn
 refine rk [4] [] hh fun h hh=>?_;cases H;exact rt hh
def zgm (k:Nat) (x:List Alt) (y:List Alt):Option Bool:=((zeg k x y).bind fun al=>some al)
theorem zkv (ax:Axs) (hx:NoAx ax) (k:Nat) (x:List Alt) (y:List Alt) (v:Bool) (H:zgm k x y=some v):Pure Tryz.prog (EE ax) [] 129 [lAlt x,lAlt y] (.bool v):=by
 rw [zgm] at H;refine en [.tmp 4] 8 [0,1] (hx.no _ (by decide)) (fn129 ax) ?_;intro h hh;repeat apply dn
 refine rk [0,1] [] hh fun h hh=>?_;obtain ⟨al,e1,H⟩:=zad H;repeat apply dn
 refine rkp [4] [] [.bool al] hh ?_ ?_
 .exact ⟨ey ((zn9 ax hx k x y al e1 ).call _),trivial⟩
 clear hh h;intro h hh;cases H;exact rt hh
def zia (k:Nat) (a:Rule) (b:Rule):Option Bool:=(if a.step=b.step then ((zco k a.outs b.outs (fun y y2=>zgm k y y2)).bind fun am=>some am) else some false)
theorem zt3 (ax:Axs) (hx:NoAx ax) (k:Nat) (a:Rule) (b:Rule) (v:Bool) (H:zia k a b=some v):Pure Tryz.prog (EE ax) [] 116 [ze9 a,ze9 b] (.bool v):=by
 rw [zia] at H;refine en [.tmp 4] 17 [0,1] (hx.no _ (by decide)) (fn116 ax) ?_;intro h hh;repeat apply dn
 refine rk [2,3] [] hh fun h hh=>?_;rcases isp H with ⟨c1,H⟩|⟨c1,H⟩;rotate_left
 .skip;repeat apply dn
  refine rk [4] [] (f2 hh (zAb c1)) fun h hh=>?_;cases H;exact rt hh
 obtain ⟨am,e2,H⟩:=zad H;repeat apply dn
 refine rkp [4] [] [.bool am] (f2 hh (zAa c1)) ?_ ?_
 .exact ⟨ey ((zkk ax hx k a.outs b.outs (fun y y2=>zgm k y y2) am e2 129 [] (by simp only [zfx,zfw,idsA,idsB,idsC,et]) (fun y y2 w hw=>by first|exact zkv ax hx k y y2 w hw|exact (zkv ax hx k y y2 w hw))).call _),trivial⟩
 clear hh h;intro h hh;cases H;exact rt hh
def zef (k:Nat) (a:Rule) (b:Rule):Option Bool:=(if a.prio=b.prio then (if a.mat=b.mat then ((zia k a b).bind fun bi=>some bi) else some false) else some false)
theorem zj6 (ax:Axs) (hx:NoAx ax) (k:Nat) (a:Rule) (b:Rule) (v:Bool) (H:zef k a b=some v):Pure Tryz.prog (EE ax) [] 87 [ze9 a,ze9 b] (.bool v):=by
 rw [zef] at H;refine en [.tmp 4] 22 [0,1] (hx.no _ (by decide)) (fn87 ax) ?_;intro h hh;repeat apply dn
 refine rk [2,3] [] hh fun h hh=>?_;rcases isp H with ⟨c1,H⟩|⟨c1,H⟩;rotate_left
 .skip;repeat apply dn
  refine rk [4] [] (f2 hh (zAb c1)) fun h hh=>?_;cases H;exact rt hh
 rcases isp H with ⟨c2,H⟩|⟨c2,H⟩;rotate_left
 .skip;repeat apply dn
  refine rk [4] [] (f3 hh (zAa c1) (f2 (zAb c2) ((yjz ax a.mat b.mat).1))) fun h hh=>?_;cases H;exact rt hh
 obtain ⟨bi,e3,H⟩:=zad H;repeat apply dn
 refine rkp [4] [] [.bool bi] (f3 hh (zAa c1) (f2 (zAa c2) ((yjz ax a.mat b.mat).1))) ?_ ?_
 .exact ⟨ey ((zt3 ax hx k a b bi e3 ).call _),trivial⟩
 clear hh h;intro h hh;cases H;exact rt hh
def zgy (k:Nat) (t:List Rule) (u:List Rule):Option Bool:=((zcn k t u (fun y y2=>zef k y y2)).bind fun bj=>some bj)
theorem zh6 (ax:Axs) (hx:NoAx ax) (k:Nat) (t:List Rule) (u:List Rule) (v:Bool) (H:zgy k t u=some v):Pure Tryz.prog (EE ax) [] 47 [zcp t,zcp u] (.bool v):=by
 rw [zgy] at H;refine en [.tmp 4] 8 [0,1] (hx.no _ (by decide)) (fn47 ax) ?_;intro h hh;repeat apply dn
 refine rk [0,1] [] hh fun h hh=>?_;obtain ⟨bj,e1,H⟩:=zad H;repeat apply dn
 refine rkp [4] [] [.bool bj] hh ?_ ?_
 .exact ⟨ey ((zkj ax hx k t u (fun y y2=>zef k y y2) bj e1 87 [] (by simp only [zfx,zfw,idsA,idsB,idsC,et]) (fun y y2 w hw=>by first|exact zj6 ax hx k y y2 w hw|exact (zj6 ax hx k y y2 w hw))).call _),trivial⟩
 clear hh h;intro h hh;cases H;exact rt hh
def zca (k:Nat) (a:Rule) (b:Rule) (k_:Int):Nat->Int->Option (Bool ⊕ Unit)
 |0,_=>none
 |m+1,i=>(if i<((gx a.outs k_).length:Int) then (if 0<=i/\i<((gx a.outs k_).length:Int) then (if 0<=i/\i<((gx b.outs k_).length:Int) then (if (gx (gx a.outs k_) i)=(gx (gx b.outs k_) i) then zca k a b k_ m (dw.wrap (i+1)) else some (.inl false)) else none) else none) else some (.inr ()))
def zcb (k:Nat) (a:Rule) (b:Rule):Nat->Int->Option (Bool ⊕ Unit)
 |0,_=>none
 |m+1,k_=>(if k_<(a.outs.length:Int) then (((if 0<=k_/\k_<(a.outs.length:Int) then (if 0<=k_/\k_<(b.outs.length:Int) then (if ((gx a.outs k_).length:Int)≠((gx b.outs k_).length:Int) then some (.inl false) else ((zca k a b k_ k 0:Option (Bool ⊕ Unit)).bind fun o=>gr (fun r=>some (.inl r)) (fun s_3=>some (.inr ())) o)) else none) else none):Option (Bool ⊕ Unit)).bind fun o2=>gr (fun r=>some (.inl r)) (fun s_2=>zcb k a b m (dw.wrap (k_+1))) o2) else some (.inr ()))
def zhf (k:Nat) (a:Rule) (b:Rule):Option Bool:=(if (a.outs.length:Int)≠(b.outs.length:Int) then some false else ((zcb k a b k 0:Option (Bool ⊕ Unit)).bind fun o3=>gr (fun r=>some r) (fun s_=>some true) o3))
theorem zsy (ax:Axs) (hx:NoAx ax) (k:Nat) (a:Rule) (b:Rule) (v:Bool) (H:zhf k a b=some v):Pure Tryz.prog (EE ax) [] 131 [ze9 a,ze9 b] (.bool v):=by
 rw [zhf] at H;refine en [.tmp 4] 61 [0,1] (hx.no _ (by decide)) (fn131 ax) ?_;intro h hh;repeat apply dn
 refine rk [2,3] [] hh fun h hh=>?_;repeat apply dn
 refine rk [2,3,13] [] hh fun h hh=>?_;rcases isp H with ⟨c1,H⟩|⟨c1,H⟩;rotate_left
 .skip;repeat apply dn
  refine cf (f2 hh (zAb c1)) ?_;repeat apply dn
  refine sk ?_;repeat apply dn
  refine rk [2,3,5] [] hh fun h hh=>?_;obtain ⟨o3,H1,H⟩:=zad H;repeat apply dn
  refine cu [] 2 (fun h bs=>∃ s_:Unit,o3=.inr s_/\(True)/\bs=[.cells true 23 (dy .i64 a.prio :: (a.mat.mask.l.map (dy .i64)++(a.mat.bits.l.map (dy .i64)++[dy .i64 a.step,zf4 a.outs]))),.cells true 23 (dy .i64 b.prio :: (b.mat.mask.l.map (dy .i64)++(b.mat.bits.l.map (dy .i64)++[dy .i64 b.step,zf4 b.outs])))]) ?_ ?_
  .skip;repeat apply dn
   apply fc;repeat apply dn
   refine gy [2,3,5] (fun m h bs=>∃ (k_:Int),zcb k a b m k_=some o3/\(h 2=.ptr 0 0 23/\h 3=.ptr 1 0 23/\h 5=.int .i64 k_)/\bs=[.cells true 23 (dy .i64 a.prio :: (a.mat.mask.l.map (dy .i64)++(a.mat.bits.l.map (dy .i64)++[dy .i64 a.step,zf4 a.outs]))),.cells true 23 (dy .i64 b.prio :: (b.mat.mask.l.map (dy .i64)++(b.mat.bits.l.map (dy .i64)++[dy .i64 b.step,zf4 b.outs])))]) ?_ k _ _ ?_;rotate_left
   .exact ⟨0,H1,kq hh,rfl⟩
   clear hh h H1;rintro m h bs ⟨k_,H1,hh,rfl⟩;rcases m with _|m
   .rw [zcb] at H1;cases H1
   rw [zcb] at H1;repeat apply dn
   refine rk [2,3,5,18] [] hh fun h hh=>?_;rcases isp H1 with ⟨c2,H1⟩|⟨c2,H1⟩;rotate_left
   .skip;repeat apply dn
    refine cf (f2 hh (zAb c2)) ?_;refine xk ?_;cases H1;exact ce hh ⟨_,rfl,kq hh,rfl⟩
   repeat apply dn
   refine ct (f2 hh (zAa c2)) ?_;repeat apply dn
   refine sk ?_;obtain ⟨o2,H2,H1⟩:=zad H1;repeat apply dn
   refine cu [2,3,5] 2 (fun h bs=>∃ s_2:Unit,o2=.inr s_2/\(h 2=.ptr 0 0 23/\h 3=.ptr 1 0 23/\h 5=.int .i64 k_)/\bs=[.cells true 23 (dy .i64 a.prio :: (a.mat.mask.l.map (dy .i64)++(a.mat.bits.l.map (dy .i64)++[dy .i64 a.step,zf4 a.outs]))),.cells true 23 (dy .i64 b.prio :: (b.mat.mask.l.map (dy .i64)++(b.mat.bits.l.map (dy .i64)++[dy .i64 b.step,zf4 b.outs])))]) ?_ ?_
   .skip;repeat apply dn
    apply fc;obtain ⟨g3,H2⟩:=isg H2;obtain ⟨g4,H2⟩:=isg H2;repeat apply dn
    refine dk 12 [2,3,5,33] [] [] [] (f3 hh (zae g3) (zae g4)) trivial trivial fun h hh=>?_;rcases isp H2 with ⟨c5,H2⟩|⟨c5,H2⟩;rotate_left
    .skip;repeat apply dn
     refine cf (f2 hh (zAb c5)) ?_;repeat apply dn
     refine sk ?_;repeat apply dn
     refine rk [2,3,5,6] [] hh fun h hh=>?_;obtain ⟨o,H3,H2⟩:=zad H2;repeat apply dn
     refine cu [2,3,5] 2 (fun h bs=>∃ s_3:Unit,o=.inr s_3/\(h 2=.ptr 0 0 23/\h 3=.ptr 1 0 23/\h 5=.int .i64 k_)/\bs=[.cells true 23 (dy .i64 a.prio :: (a.mat.mask.l.map (dy .i64)++(a.mat.bits.l.map (dy .i64)++[dy .i64 a.step,zf4 a.outs]))),.cells true 23 (dy .i64 b.prio :: (b.mat.mask.l.map (dy .i64)++(b.mat.bits.l.map (dy .i64)++[dy .i64 b.step,zf4 b.outs])))]) ?_ ?_
     .skip;repeat apply dn
      apply fc;repeat apply dn
      refine gy [2,3,5,6] (fun m h bs=>∃ (i:Int),zca k a b k_ m i=some o/\(h 2=.ptr 0 0 23/\h 3=.ptr 1 0 23/\h 5=.int .i64 k_/\h 6=.int .i64 i)/\bs=[.cells true 23 (dy .i64 a.prio :: (a.mat.mask.l.map (dy .i64)++(a.mat.bits.l.map (dy .i64)++[dy .i64 a.step,zf4 a.outs]))),.cells true 23 (dy .i64 b.prio :: (b.mat.mask.l.map (dy .i64)++(b.mat.bits.l.map (dy .i64)++[dy .i64 b.step,zf4 b.outs])))]) ?_ k _ _ ?_;rotate_left
      .exact ⟨0,H3,kq hh,rfl⟩
      clear hh h H3;rintro m h bs ⟨i,H3,hh,rfl⟩;rcases m with _|m
      .rw [zca] at H3;cases H3
      rw [zca] at H3;repeat apply dn
      refine rk [2,3,5,6,41] [] (f2 hh (zae g3)) fun h hh=>?_;rcases isp H3 with ⟨c6,H3⟩|⟨c6,H3⟩;rotate_left
      .skip;repeat apply dn
       refine cf (f2 hh (zAb c6)) ?_;refine xk ?_;cases H3;exact ce hh ⟨_,rfl,kq hh,rfl⟩
      repeat apply dn
      refine ct (f2 hh (zAa c6)) ?_;repeat apply dn
      refine sk ?_;repeat apply dn
      apply fc;obtain ⟨g7,H3⟩:=isg H3;obtain ⟨g8,H3⟩:=isg H3;repeat apply dn
      refine dk 16 [2,3,5,6,60] [] [] [] (f3 hh (zae g3) (f3 (zae g7) (zae g4) (f2 (zae g8) ((yqj ax (gx (gx a.outs k_) i) (gx (gx b.outs k_) i)).2)))) trivial trivial fun h hh=>?_;rcases isp H3 with ⟨c9,H3⟩|⟨c9,H3⟩;rotate_left
      .skip;repeat apply dn
       refine ct (f2 hh (zAb c9)) ?_;repeat apply dn
       refine rk [4] [] hh fun h hh=>?_;cases H3;obtain rfl:=sinm H2;obtain rfl:=sinm H1;obtain rfl:=sinl H;exact rt hh
      repeat apply dn
      refine cf (f2 hh (zAa c9)) ?_;repeat apply dn
      refine sk ?_;repeat apply dn
      refine rk [2,3,5,6] [] hh fun h hh=>?_;exact rd m hh ⟨(dw.wrap (i+1)),H3,kq hh,rfl⟩
     clear hh h;rintro h bs ⟨s_3,rfl,hh,rfl⟩;replace H2:=sinr H2;cases H2;exact ce hh ⟨_,rfl,kq hh,rfl⟩
    repeat apply dn
    refine ct (f2 hh (zAa c5)) ?_;repeat apply dn
    refine rk [4] [] hh fun h hh=>?_;cases H2;obtain rfl:=sinm H1;obtain rfl:=sinl H;exact rt hh
   clear hh h;rintro h bs ⟨s_2,rfl,hh,rfl⟩;replace H1:=sinr H1;repeat apply dn
   refine rk [2,3,5] [] hh fun h hh=>?_;exact rd m hh ⟨(dw.wrap (k_+1)),H1,kq hh,rfl⟩
  clear hh h;rintro h bs ⟨s_,rfl,hh,rfl⟩;replace H:=sinr H;repeat apply dn
  refine rk [4] [] hh fun h hh=>?_;cases H;exact rt hh
 repeat apply dn
 refine ct (f2 hh (zAa c1)) ?_;repeat apply dn
 refine rk [4] [] hh fun h hh=>?_;cases H;exact rt hh
def zk0 (k:Nat) (a:Rule) (b:Rule):Option Bool:=(if a.step=b.step then ((zhf k a b).bind fun ck=>some ck) else some false)
theorem zzz (ax:Axs) (hx:NoAx ax) (k:Nat) (a:Rule) (b:Rule) (v:Bool) (H:zk0 k a b=some v):Pure Tryz.prog (EE ax) [] 117 [ze9 a,ze9 b] (.bool v):=by
 rw [zk0] at H;refine en [.tmp 4] 15 [0,1] (hx.no _ (by decide)) (fn117 ax) ?_;intro h hh;repeat apply dn
 refine rk [2,3] [] hh fun h hh=>?_;rcases isp H with ⟨c1,H⟩|⟨c1,H⟩;rotate_left
 .skip;repeat apply dn
  refine rk [4] [] (f2 hh (zAb c1)) fun h hh=>?_;cases H;exact rt hh
 obtain ⟨ck,e2,H⟩:=zad H;repeat apply dn
 refine rkp [4] [] [.bool ck] (f2 hh (zAa c1)) ?_ ?_
 .exact ⟨ey ((zsy ax hx k a b ck e2 ).call _),trivial⟩
 clear hh h;intro h hh;cases H;exact rt hh
def zhg (k:Nat) (a:Rule) (b:Rule):Option Bool:=(if a.prio=b.prio then (if a.mat=b.mat then ((zk0 k a b).bind fun bi=>some bi) else some false) else some false)
theorem zsz (ax:Axs) (hx:NoAx ax) (k:Nat) (a:Rule) (b:Rule) (v:Bool) (H:zhg k a b=some v):Pure Tryz.prog (EE ax) [] 88 [ze9 a,ze9 b] (.bool v):=by
 rw [zhg] at H;refine en [.tmp 4] 22 [0,1] (hx.no _ (by decide)) (fn88 ax) ?_;intro h hh;repeat apply dn
 refine rk [2,3] [] hh fun h hh=>?_;rcases isp H with ⟨c1,H⟩|⟨c1,H⟩;rotate_left
 .skip;repeat apply dn
  refine rk [4] [] (f2 hh (zAb c1)) fun h hh=>?_;cases H;exact rt hh
 rcases isp H with ⟨c2,H⟩|⟨c2,H⟩;rotate_left
 .skip;repeat apply dn
  refine rk [4] [] (f3 hh (zAa c1) (f2 (zAb c2) ((yjz ax a.mat b.mat).1))) fun h hh=>?_;cases H;exact rt hh
 obtain ⟨bi,e3,H⟩:=zad H;repeat apply dn
 refine rkp [4] [] [.bool bi] (f3 hh (zAa c1) (f2 (zAa c2) ((yjz ax a.mat b.mat).1))) ?_ ?_
 .exact ⟨ey ((zzz ax hx k a b bi e3 ).call _),trivial⟩
 clear hh h;intro h hh;cases H;exact rt hh
def zeq (k:Nat) (t:List Rule) (u:List Rule):Nat->Int->Option (Bool ⊕ Unit)
 |0,_=>none
 |m+1,k_=>(if k_<(t.length:Int) then (if 0<=k_/\k_<(t.length:Int) then (if 0<=k_/\k_<(u.length:Int) then ((zhg k (gx t k_) (gx u k_)).bind fun cn=>(if cn=true then zeq k t u m (dw.wrap (k_+1)) else some (.inl false))) else none) else none) else some (.inr ()))
def zmt (k:Nat) (t:List Rule) (u:List Rule):Option Bool:=(if (t.length:Int)≠(u.length:Int) then some false else ((zeq k t u k 0:Option (Bool ⊕ Unit)).bind fun o=>gr (fun r=>some r) (fun s_=>some true) o))
theorem z1y (ax:Axs) (hx:NoAx ax) (k:Nat) (t:List Rule) (u:List Rule) (v:Bool) (H:zmt k t u=some v):Pure Tryz.prog (EE ax) [] 49 [zcp t,zcp u] (.bool v):=by
 rw [zmt] at H;refine en [.tmp 4] 29 [0,1] (hx.no _ (by decide)) (fn49 ax) ?_;intro h hh;repeat apply dn
 refine rk [0,1] [] hh fun h hh=>?_;repeat apply dn
 refine rk [0,1,11] [] hh fun h hh=>?_;rcases isp H with ⟨c1,H⟩|⟨c1,H⟩;rotate_left
 .skip;repeat apply dn
  refine cf (f2 hh (zAb c1)) ?_;repeat apply dn
  refine sk ?_;repeat apply dn
  refine rk [0,1,5] [] hh fun h hh=>?_;obtain ⟨o,H1,H⟩:=zad H;repeat apply dn
  refine cu [] 0 (fun h bs=>∃ s_:Unit,o=.inr s_/\(True)/\bs=[]) ?_ ?_
  .skip;repeat apply dn
   apply fc;repeat apply dn
   refine gy [0,1,5] (fun m h bs=>∃ (k_:Int),zeq k t u m k_=some o/\(h 0=zcp t/\h 1=zcp u/\h 5=.int .i64 k_)/\bs=[]) ?_ k _ _ ?_;rotate_left
   .exact ⟨0,H1,kq hh,rfl⟩
   clear hh h H1;rintro m h bs ⟨k_,H1,hh,rfl⟩;rcases m with _|m
   .rw [zeq] at H1;cases H1
   rw [zeq] at H1;repeat apply dn
   refine rk [0,1,5,15] [] hh fun h hh=>?_;rcases isp H1 with ⟨c2,H1⟩|⟨c2,H1⟩;rotate_left
   .skip;repeat apply dn
    refine cf (f2 hh (zAb c2)) ?_;refine xk ?_;cases H1;exact ce hh ⟨_,rfl,kq hh,rfl⟩
   repeat apply dn
   refine ct (f2 hh (zAa c2)) ?_;repeat apply dn
   refine sk ?_;repeat apply dn
   apply fc;obtain ⟨g3,H1⟩:=isg H1;obtain ⟨g4,H1⟩:=isg H1;obtain ⟨cn,e5,H1⟩:=zad H1;repeat apply dn
   refine dk 8 [0,1,5,6] [] [] [(.bool cn,stL [])] (f3 hh (zae g3) (zae g4)) trivial ?_ ?_
   .exact ⟨ey ((zsz ax hx k (gx t k_) (gx u k_) cn e5 ).call _),trivial⟩
   clear hh h;intro h hh;repeat apply dn
   refine rk [0,1,5,28] [] hh fun h hh=>?_;rcases isb H1 with ⟨c6,H1⟩|⟨c6,H1⟩;rotate_left
   .skip;repeat apply dn
    refine ct (f2 hh c6) ?_;repeat apply dn
    refine rk [4] [] (f2 hh c6) fun h hh=>?_;cases H1;obtain rfl:=sinl H;exact rt hh
   repeat apply dn
   refine cf (f2 hh c6) ?_;repeat apply dn
   refine sk ?_;repeat apply dn
   refine rk [0,1,5] [] (f2 hh c6) fun h hh=>?_;exact rd m hh ⟨(dw.wrap (k_+1)),H1,kq hh,rfl⟩
  clear hh h;rintro h bs ⟨s_,rfl,hh,rfl⟩;replace H:=sinr H;repeat apply dn
  refine rk [4] [] hh fun h hh=>?_;cases H;exact rt hh
 repeat apply dn
 refine ct (f2 hh (zAa c1)) ?_;repeat apply dn
 refine rk [4] [] hh fun h hh=>?_;cases H;exact rt hh
theorem gxA {n:Nat} (a:Ar n) {i:Nat} (h:i<n):gx a.l (i:Int)=a.l[i]'(by rw [a.h];exact h):=zcg (by rw [a.h];exact h)
theorem yqm {n:Nat} (a:Ar n) (q:Int->Bool):((jc n).all fun j=>q (gx a.l (j:Int)))=a.l.all q:=by
  rw [mc,ez,zwf];constructor
  . intro h j hj;have:=h j (jx.2 (by rw [a.h] at hj;exact hj))
    rwa [zcg hj] at this
  . intro h j hj;have hj':j<a.l.length:=by rw [a.h];exact jx.1 hj
    rw [zcg hj'];exact h j hj'
theorem zli {α:Type} [DecidableEq α] (a b:List α) (h:a.length=b.length):((jc a.length).all fun j=>decide (a[j]?=b[j]?))=decide (a=b):=by
  rw [mc,ez,decide_eq_true_eq];constructor
  . intro hh;apply List.ext_getElem?;intro i;by_cases hi:i<a.length
    . have:=hh i (jx.2 hi);simpa using this
    . rw [ic (by omega),ic (by omega)]
  . rintro rfl j _;simp
theorem lt10 {a:Nat} (h:a<10):(a:Int)<10:=by omega
theorem zaf {a b:Nat} (h:a<b):(a:Int)<(b:Int):=by omega
theorem zq7 {k:Nat} (l:List Int) (f:Int->Option Bool) (q:Int->Bool) (hf:∀ x,x∈l->f x=some (q x)) (hl:l.length<big) (hk:l.length<k):zcw k l f=some (idxB q l):=by
  unfold zcw;exact zlg l q hl (fun m j h=>by rw [za4,zAc (zaf h),zAc ⟨by omega,zaf h⟩,zcg h,hf _ (fo h),dq]) (fun m=>by rw [za4,zAd (by omega)]) hk
theorem znl {k:Nat} (l:List Int) (f:Int->Option Bool) (q:Int->Bool) (hf:∀ x,x∈l->f x=some (q x)) (hl:l.length<big) (hk:l.length<k):zbw k l f=some (l.any q):=by
  unfold zbw;rw [zq7 l f q hf hl hk,dq,zqg]
theorem zq8 {k:Nat} (l:List Alt) (f:Alt->Option Bool) (q:Alt->Bool) (hf:∀ x,x∈l->f x=some (q x)) (hl:l.length<big) (hk:l.length<k):zcx k l f=some (idxB q l):=by
  unfold zcx;exact zlg l q hl (fun m j h=>by rw [za5,zAc (zaf h),zAc ⟨by omega,zaf h⟩,zcg h,hf _ (fo h),dq]) (fun m=>by rw [za5,zAd (by omega)]) hk
theorem znm {k:Nat} (l:List Alt) (f:Alt->Option Bool) (q:Alt->Bool) (hf:∀ x,x∈l->f x=some (q x)) (hl:l.length<big) (hk:l.length<k):zbx k l f=some (l.any q):=by
  unfold zbx;rw [zq8 l f q hf hl hk,dq,zqg]
theorem zpk {k:Nat} (l:List (List Alt)) (f:(List Alt)->Option Bool) (q:(List Alt)->Bool) (hf:∀ x,x∈l->f x=some (q x)) (hl:l.length<big) (hk:l.length<k):zcl k l f=some (idxB q l):=by
  unfold zcl;exact zlg l q hl (fun m j h=>by rw [za1,zAc (zaf h),zAc ⟨by omega,zaf h⟩,zcg h,hf _ (fo h),dq]) (fun m=>by rw [za1,zAd (by omega)]) hk
theorem zmm {k:Nat} (l:List (List Alt)) (f:(List Alt)->Option Bool) (q:(List Alt)->Bool) (hf:∀ x,x∈l->f x=some (q x)) (hl:l.length<big) (hk:l.length<k):zbs k l f=some (l.any q):=by
  unfold zbs;rw [zpk l f q hf hl hk,dq,zqg]
theorem zpm {k:Nat} (a b:List Rule) (f:Rule->Rule->Option Bool) (hf:∀ x,x∈a->∀ y,y∈b->f x y=some (decide (x=y))) (hl:a.length<big) (hk:a.length<k):zcn k a b f=some (decide (a=b)):=by
  unfold zcn;by_cases hlen:a.length=b.length
  . rw [zAd (by omega),zcz (L:=zas k a b f) a.length false (fun j=>decide (a[j]?=b[j]?)) hl (fun m j h=>by
      have h2:j<b.length:=by omega
      rw [zas,zAc (zaf h),zAc ⟨by omega,zaf h⟩,zAc ⟨by omega,zaf h2⟩,zcg h,zcg h2];rw [hf _ (fo h) _ (fo h2),dq,dv h,dv h2]
      simp only [dp]) (fun m=>by rw [zas,zAd (by omega)]) hk,zli a b hlen,dq]
    cases decide (a=b)<;>rfl
  . rw [zAc (by omega)];congr 1;exact (zAb fun h=>hlen (by rw [h])).symm
theorem zpn {k:Nat} (a b:List (List Alt)) (f:(List Alt)->(List Alt)->Option Bool) (hf:∀ x,x∈a->∀ y,y∈b->f x y=some (decide (x=y))) (hl:a.length<big) (hk:a.length<k):zco k a b f=some (decide (a=b)):=by
  unfold zco;by_cases hlen:a.length=b.length
  . rw [zAd (by omega),zcz (L:=zat k a b f) a.length false (fun j=>decide (a[j]?=b[j]?)) hl (fun m j h=>by
      have h2:j<b.length:=by omega
      rw [zat,zAc (zaf h),zAc ⟨by omega,zaf h⟩,zAc ⟨by omega,zaf h2⟩,zcg h,zcg h2];rw [hf _ (fo h) _ (fo h2),dq,dv h,dv h2]
      simp only [dp]) (fun m=>by rw [zat,zAd (by omega)]) hk,zli a b hlen,dq]
    cases decide (a=b)<;>rfl
  . rw [zAc (by omega)];congr 1;exact (zAb fun h=>hlen (by rw [h])).symm
theorem zwx {k:Nat} (a b:List Alt) (hl:a.length<big) (hk:a.length<k):zeg k a b=some (decide (a=b)):=by
  unfold zeg;by_cases hlen:a.length=b.length
  . rw [zAd (by omega),zcz (L:=zbe k a b) a.length false (fun j=>decide (a[j]?=b[j]?)) hl (fun m j h=>by
      have h2:j<b.length:=by omega
      rw [zbe,zAc (zaf h),zAc ⟨by omega,zaf h⟩,zAc ⟨by omega,zaf h2⟩,zcg h,zcg h2,dv h,dv h2]
      simp only [dp,decide_eq_true_eq]) (fun m=>by rw [zbe,zAd (by omega)]) hk,zli a b hlen,dq]
    cases decide (a=b)<;>rfl
  . rw [zAc (by omega)];congr 1;exact (zAb fun h=>hlen (by rw [h])).symm
/-! patterns -/
def zfr (x:Int):Bool:=decide (0<=x/\x<=65535)
def za3 (h:Ar 10):Bool:=h.l.all zfr
def zo0 (p:Pat):Bool:=(jc 10).all fun i=>decide (iAnd .i64 (gx p.bits.l (i:Int)) (gx p.mask.l (i:Int))=gx p.bits.l (i:Int))
def zbb (p:Pat):Bool:=za3 p.mask && (za3 p.bits && zo0 p)
theorem zxw {x:Int} (h:zfr x=true):∃ n:Nat,x=(n:Int)/\n<65536:=by
  have:=of_decide_eq_true h;exact ⟨x.toNat,by omega,by omega⟩
theorem zlt {h:Ar 10} (hr:za3 h=true) {i:Nat} (hi:i<10):∃ n:Nat,gx h.l (i:Int)=(n:Int)/\n<65536:=by
  rw [gxA h hi];exact zxw (ez.1 hr _ (fo _))
theorem zox {k:Nat} (h:Ar 10) (hk:10<k):zei k h=some (za3 h):=by
  unfold zei;have hl:=h.h
  rw [znl h.l _ (fun x=>!zfr x) (fun x _=>by
    unfold zeh zfr;by_cases h1:x<0
    . rw [zAc h1];simp;omega
    . rw [zAd h1];congr 1;rw [mc];simp;omega) (by rw [hl];decide) (by rw [hl];exact hk),dq]
  unfold za3;rw [List.any_eq_not_all_not];simp
theorem zzi {k:Nat} (p:Pat) (hk:10<k):zhz k p=some (zbb p):=by
  unfold zhz zbb
  rw [zox _ hk,zox _ hk,dq]
  cases hm:za3 p.mask with
  |false=>rfl
  |true =>
    simp only [if_true,dq,iw]
    cases hb:za3 p.bits with
    |false=>rfl
    |true =>
      simp only [f6,jd,if_false,iw]
      rw [zcz (L:=zdk k p) 10 false (fun i=>decide (iAnd .i64 (gx p.bits.l (i:Int)) (gx p.mask.l (i:Int))=gx p.bits.l (i:Int))) (by decide) (fun m j h=>by
        obtain ⟨x,hx,hx2⟩:=zlt hb h;obtain ⟨y,hy,hy2⟩:=zlt hm h;rw [zdk,zAc (lt10 h),zAc ⟨by omega,lt10 h⟩,hx,hy,yfr (by omega) (by omega),zqq (by omega) (by omega)];have hle:x &&& y<=x:=mg;by_cases c:x &&& y=x
        . rw [zAd (by omega),zAc (by rw [decide_eq_true_eq];omega)]
        . rw [zAc (by omega),zAd (by rw [decide_eq_true_eq];omega)]) (fun m=>by rw [zdk];exact zAd (by decide)) hk,dq]
      unfold zo0;cases (jc 10).all _<;>rfl
theorem z1d {k:Nat} (p:Pat) (hk:10<k):zgo k p=some (zbb p):=by
  unfold zgo;rw [zzi p hk];rfl
theorem zp5 {k:Nat} (h:Ar 10) (hk:10<k):zfc k h=some (za3 h):=by
  unfold zfc
  rw [zcz (L:=zby k h) 10 false (fun i=>zfr (gx h.l (i:Int))) (by decide) (fun m j hj=>by
    rw [zby,zAc (lt10 hj),zAc ⟨by omega,lt10 hj⟩];unfold zfr;by_cases c1:gx h.l (j:Int)<0
    . rw [zAc c1,zAd (by rw [decide_eq_true_eq];omega)]
    . rw [zAd c1];by_cases c2:65535<gx h.l (j:Int)
      . rw [zAc c2,zAd (by rw [decide_eq_true_eq];omega)]
      . rw [zAd c2,zAc (by rw [decide_eq_true_eq];omega)]) (fun m=>by rw [zby];exact zAd (by decide)) hk,dq,yqm]
  unfold za3;cases h.l.all zfr<;>rfl
theorem ya0 {k:Nat} (p:Pat) (hk:10<k):zjr k p.bits p.mask=some (zo0 p):=by
  unfold zjr zo0
  rw [zcz (L:=zdj k p.bits p.mask) 10 false (fun i=>decide (iAnd .i64 (gx p.bits.l (i:Int)) (gx p.mask.l (i:Int))=gx p.bits.l (i:Int))) (by decide) (fun m j hj=>by
    rw [zdj,zAc (lt10 hj),zAc ⟨by omega,lt10 hj⟩];by_cases c:iAnd .i64 (gx p.bits.l (j:Int)) (gx p.mask.l (j:Int))=gx p.bits.l (j:Int)
    . rw [zAd (fun h=>h c),zAc (zAa c)]
    . rw [zAc c,zAd (by rw [decide_eq_true_eq];exact c)]) (fun m=>by rw [zdj];exact zAd (by decide)) hk,dq]
  cases (jc 10).all _<;>rfl
theorem z2l {k:Nat} (p:Pat) (hk:10<k):zjf k p=some (zbb p):=by
  unfold zjf zbb
  rw [zp5 _ hk,zp5 _ hk,dq,dq,ya0 p hk];cases za3 p.mask<;>cases za3 p.bits<;>rfl
theorem z2k {k:Nat} (p:Pat) (hk:10<k):zhh k p=some (zbb p):=by
  unfold zhh;rw [z2l _ hk];rfl
/-! rules and tables -/
def zqa (r:Rule):Prop:=r.outs.length<big/\∀ l,l∈r.outs->l.length<big
def ya5 (t:List Rule):Prop:=t.length<big/\∀ r,r∈t->zqa r
theorem z47 {k:Nat} (a b:Rule) (ha:zqa a) (hk:big<=k):zia k a b=some (decide (a.step=b.step/\a.outs=b.outs)):=by
  unfold zia;rw [zpn a.outs b.outs _ (fun x hx y hy=>by unfold zgm;rw [zwx x y (ha.2 x hx) (ei (ha.2 x hx) hk)];rfl) ha.1 (ei ha.1 hk)];by_cases c:a.step=b.step
  . rw [zAc c];simp [c]
  . rw [zAd c];simp [c]
theorem zwl {k:Nat} (a b:Rule) (ha:zqa a) (hk:big<=k):zef k a b=some (decide (a=b)):=by
  unfold zef;rw [z47 a b ha hk];obtain ⟨p,m,s,o⟩:=a;obtain ⟨p2,m2,s2,o2⟩:=b;simp only [Rule.mk.injEq];by_cases c1:p=p2
  . rw [zAc c1];by_cases c2:m=m2
    . rw [zAc c2];simp [c1,c2]
    . rw [zAd c2];simp [c2]
  . rw [zAd c1];simp [c1]
theorem yan {k:Nat} (t u:List Rule) (ht:ya5 t) (hk:big<=k):zgy k t u=some (decide (t=u)):=by
  unfold zgy;rw [zpm t u _ (fun x hx y hy=>zwl x y (ht.2 x hx) hk) ht.1 (ei ht.1 hk)];rfl
theorem z2i {k:Nat} (a b:Rule) (ha:zqa a) (hk:big<=k):zhf k a b=some (decide (a.outs=b.outs)):=by
  unfold zhf;by_cases hlen:a.outs.length=b.outs.length
  . rw [zAd (by omega),zcz (L:=zcb k a b) a.outs.length false (fun j=>decide (a.outs[j]?=b.outs[j]?)) ha.1 (fun m j h=>by
      have h2:j<b.outs.length:=by omega
      rw [zcb,zAc (zaf h),zAc ⟨by omega,zaf h⟩,zAc ⟨by omega,zaf h2⟩,zcg h,zcg h2];have hx:=ha.2 _ (fo h);rw [dv h,dv h2];by_cases hl2:a.outs[j].length=b.outs[j].length
      . rw [zAd (by omega),zcz (L:=zca k a b (j:Int)) a.outs[j].length false (fun i=>decide (a.outs[j][i]?=b.outs[j][i]?)) hx (fun m i hi=>by
          have hi2:i<b.outs[j].length:=by omega
          rw [zca,zcg h,zcg h2,zAc (zaf hi),zAc ⟨by omega,zaf hi⟩,zAc ⟨by omega,zaf hi2⟩,zcg hi,zcg hi2,dv hi,dv hi2]
          simp only [dp,decide_eq_true_eq]) (fun m=>by rw [zca,zcg h,zAd (by omega)]) (ei hx hk),zli _ _ hl2,dq]
        by_cases c:a.outs[j]=b.outs[j]
        . rw [zAa c,zAa (congrArg some c)];rfl
        . rw [zAb c,zAb (fun h=>c (Option.some.inj h))];rfl
      . rw [zAc (by omega),zAb (fun h=>hl2 (by rw [Option.some.inj h]))];rfl) (fun m=>by rw [zcb,zAd (by omega)]) (ei ha.1 hk),zli _ _ hlen,dq]
    cases decide (a.outs=b.outs)<;>rfl
  . rw [zAc (by omega)];congr 1;exact (zAb fun h=>hlen (by rw [h])).symm
theorem yd1 {k:Nat} (a b:Rule) (ha:zqa a) (hk:big<=k):zk0 k a b=some (decide (a.step=b.step/\a.outs=b.outs)):=by
  unfold zk0;rw [z2i a b ha hk];by_cases c:a.step=b.step
  . rw [zAc c];simp [c]
  . rw [zAd c];simp [c]
theorem z2j {k:Nat} (a b:Rule) (ha:zqa a) (hk:big<=k):zhg k a b=some (decide (a=b)):=by
  unfold zhg;rw [yd1 a b ha hk];obtain ⟨p,m,s,o⟩:=a;obtain ⟨p2,m2,s2,o2⟩:=b;simp only [Rule.mk.injEq];by_cases c1:p=p2
  . rw [zAc c1];by_cases c2:m=m2
    . rw [zAc c2];simp [c1,c2]
    . rw [zAd c2];simp [c2]
  . rw [zAd c1];simp [c1]
theorem yie {k:Nat} (t u:List Rule) (ht:ya5 t) (hk:big<=k):zmt k t u=some (decide (t=u)):=by
  unfold zmt;by_cases hlen:t.length=u.length
  . rw [zAd (by omega),zcz (L:=zeq k t u) t.length false (fun j=>decide (t[j]?=u[j]?)) ht.1 (fun m j h=>by
      have h2:j<u.length:=by omega
      rw [zeq,zAc (zaf h),zAc ⟨by omega,zaf h⟩,zAc ⟨by omega,zaf h2⟩,zcg h,zcg h2,z2j _ _ (ht.2 _ (fo h)) hk,dq,dv h,dv h2]
      simp only [dp]) (fun m=>by rw [zeq,zAd (by omega)]) (ei ht.1 hk),zli t u hlen,dq]
    cases decide (t=u)<;>rfl
  . rw [zAc (by omega)];congr 1;exact (zAb fun h=>hlen (by rw [h])).symm
def fAlt (n:Net) (a:Alt):Bool:=decide (-1<=a.link/\a.link<n.links.length) && zbb a.mod
def fOut (n:Net) (l:List Alt):Bool:=decide (1<=l.length/\l.length<=8) && l.all (fAlt n)
def zka (n:Net) (steps:Int) (r:Rule):Bool:=decide (1<=r.prio/\r.prio<=65535) && (zbb r.mat && (decide (-1<=r.step/\r.step<steps/\r.outs.length<=16) && r.outs.all (fOut n)))
theorem z1r {k:Nat} (n:Net) (steps:Int) (r:Rule) (hr:zqa r) (hk:big<=k):zhd k n steps r=some (zka n steps r):=by
  have hk10:10<k:=ei (by decide) hk
  have h1:∀ a:Alt,zb2 k a n=some (!fAlt n a):=by
    intro a;unfold zb2 fAlt;rw [z1d _ hk10];by_cases c1:a.link < -1
    . rw [zAc c1,zAb (by omega)];rfl
    . rw [zAd c1];by_cases c2:(n.links.length:Int)<=a.link
      . rw [zAc c2,zAb (by omega)];rfl
      . rw [zAd c2,zAa (by omega)];simp
  have h2:∀ l,l∈r.outs->zee k l (fun y2=>zb2 k y2 n)=some (!fOut n l):=by
    intro l hl;unfold zee fOut;by_cases c1:(l.length:Int)=0
    . rw [zAc c1,zAb (by omega)];rfl
    . rw [zAd c1];by_cases c2:8<(l.length:Int)
      . rw [zAc c2,zAb (by omega)];rfl
      . rw [zAd c2,zAa (by omega),znm l _ (fun a=>!fAlt n a) (fun a _=>h1 a) (hr.2 l hl) (ei (hr.2 l hl) hk)];simp [List.any_eq_not_all_not]
  unfold zhd zka;rw [zzi _ hk10,zmm r.outs _ (fun l=>!fOut n l) h2 hr.1 (ei hr.1 hk)];by_cases c1:1<=r.prio
  . rw [zAc c1];by_cases c2:r.prio<=65535
    . rw [zAc c2,dq,zAa ⟨c1,c2⟩]
      cases zbb r.mat with
      |false=>rfl
      |true =>
        simp only [if_true,iw];by_cases c3:-1<=r.step
        . rw [zAc c3];by_cases c4:r.step<steps
          . rw [zAc c4];by_cases c5:(r.outs.length:Int)<=16
            . rw [zAc c5,zAa ⟨c3,c4,by omega⟩];simp [List.any_eq_not_all_not]
            . rw [zAd c5,zAb (by omega)];rfl
          . rw [zAd c4,zAb (fun h=>c4 h.2.1)];rfl
        . rw [zAd c3,zAb (fun h=>c3 h.1)];rfl
    . rw [zAd c2,zAb (fun h=>c2 h.2)];rfl
  . rw [zAd c1,zAb (fun h=>c1 h.1)];rfl
theorem yaz {k:Nat} (n:Net) (steps:Int) (r:Rule) (hr:zqa r) (hk:big<=k):zjq k n steps r=some (zka n steps r):=by
  have hk10:10<k:=ei (by decide) hk;unfold zjq zka;rw [z2l _ hk10,dq]
  have hloop:zdi k n r k 0=some (if r.outs.all (fOut n)=true then .inr () else .inl false):=by
    refine zlz r.outs false (fOut n) hr.1 (fun m j h=>?_) (fun m=>by rw [zdi,zAd (by omega)]) (ei hr.1 hk);have hx:=hr.2 _ (fo h);rw [zdi,zAc (zaf h),zAc ⟨by omega,zaf h⟩,zcg h];unfold fOut;by_cases c1:(r.outs[j].length:Int)<1
    . rw [zAc c1,zAb (by omega)];rfl
    . rw [zAd c1,dq];by_cases c2:8<(r.outs[j].length:Int)
      . rw [zAa c2,zAb (by omega)];rfl
      . rw [zAb c2,zAa (by omega)];simp only [jd,if_false,iw]
        rw [zlz (L:=zdh k n r (j:Int)) r.outs[j] false (fAlt n) hx (fun m i hi=>by
          rw [zdh,zAc ⟨by omega,zaf h⟩,zcg h,zAc (zaf hi),zAc ⟨by omega,zaf hi⟩,zcg hi,z2k _ hk10,dq];unfold fAlt;by_cases d1:r.outs[j][i].link < -1
          . rw [zAc d1,zAb (by omega)];rfl
          . rw [zAd d1];by_cases d2:(n.links.length:Int)<=r.outs[j][i].link
            . rw [zAc d2,zAb (by omega)];rfl
            . rw [zAd d2,zAa (by omega)];rfl) (fun m=>by rw [zdh,zAc ⟨by omega,zaf h⟩,zcg h,zAd (by omega)]) (ei hx hk),dq]
        cases r.outs[j].all (fAlt n)<;>rfl
  rw [hloop];by_cases c1:r.prio<1
  . rw [zAc c1,zAb (by omega)];rfl
  . rw [zAd c1];by_cases c2:65535<r.prio
    . rw [zAc c2,zAb (by omega)];rfl
    . rw [zAd c2,zAa (show 1<=r.prio/\r.prio<=65535 by omega)]
      cases zbb r.mat with
      |false=>rfl
      |true =>
        simp only [if_true,iw];by_cases c3:r.step < -1
        . rw [zAc c3,zAb (by omega)];rfl
        . rw [zAd c3];by_cases c4:steps<=r.step
          . rw [zAc c4,zAb (by omega)];rfl
          . rw [zAd c4,dq];by_cases c5:16<(r.outs.length:Int)
            . rw [zAa c5,zAb (by omega)];rfl
            . rw [zAb c5,zAa (by omega)];simp only [jd,if_false,iw];cases r.outs.all (fOut n)<;>rfl
def zew (k:Nat) (n:Net):Nat->Int->(List ByteArray)->Nat->Option (List ByteArray×Nat)
 |0,_,_,_=>none
 |m+1,i,l,n2=>(if i<(n.nodes.length:Int) then (if 0<=i/\i<(n.nodes.length:Int) then (if (n2+1)*17<=1000000000 then zew k n m (dw.wrap (i+1)) (l++[(gx n.nodes i).name]) (n2+1) else none) else none) else some (l,n2))
def zev (k:Nat) (n:Net):Nat->Int->(List ByteArray)->Nat->Option (List ByteArray×Nat)
 |0,_,_,_=>none
 |m+1,i2,l2,n3=>(if i2<(n.edges.length:Int) then (if 0<=i2/\i2<(n.edges.length:Int) then (if (n3+1)*17<=1000000000 then zev k n m (dw.wrap (i2+1)) (l2++[(gx n.edges i2).name]) (n3+1) else none) else none) else some (l2,n3))
def zk2 (k:Nat) (n:Net):Option (List ByteArray×List ByteArray):=((zew k n k 0 [] 0:Option (List ByteArray×Nat)).bind fun s_=>((zev k n k 0 [] 0:Option (List ByteArray×Nat)).bind fun s_2=>(if s_.1.length=s_.2 then (if s_2.1.length=s_2.2 then some (s_.1,s_2.1) else none) else none)))
theorem zz1 (ax:Axs) (hx:NoAx ax) (k:Nat) (n:Net) (v:List ByteArray×List ByteArray) (H:zk2 k n=some v):Pure Tryz.prog (EE ax) [] 37 [eNet n] (tupT [strs v.1,strs v.2]):=by
 rw [zk2] at H;refine enN [.tmp 2,.tmp 3] 42 [0] (hx.no _ (by decide)) (fn37 ax) ?_;intro h hh;repeat apply dn
 refine rk [1] [] hh fun h hh=>?_;repeat apply dn
 refine rk [1,4] [] hh fun h hh=>?_;refine vk 4 1 [1,4] hh fun h hh=>?_;repeat apply dn
 refine rk [1,4,5] [] hh fun h hh=>?_;refine vk 5 1 [1,4,5] hh fun h hh=>?_;repeat apply dn
 refine rk [1,4,5,6] [] hh fun h hh=>?_;obtain ⟨s_,H1,H⟩:=zad H;repeat apply dn
 refine cu [1,4,5] 3 (fun h bs=>(h 1=.ptr 0 0 3/\h 4=.arr 1 1 0 s_.2 s_.2 s_.2/\h 5=.arr 2 1 0 0 0 0)/\bs=[.cells true 3 [zbn n.nodes,zbo n.links,zbp n.edges],.cells false s_.2 (s_.1.map l6),.cells false 0 ([].map l6)]) ?_ ?_
 .skip;repeat apply dn
  apply fc;repeat apply dn
  refine gy [1,4,5,6] (fun m h bs=>∃ (i:Int) (l:List ByteArray) (n2:Nat),zew k n m i l n2=some s_/\(h 1=.ptr 0 0 3/\h 4=.arr 1 1 0 n2 n2 n2/\h 5=.arr 2 1 0 0 0 0/\h 6=.int .i64 i)/\bs=[.cells true 3 [zbn n.nodes,zbo n.links,zbp n.edges],.cells false n2 (l.map l6),.cells false 0 ([].map l6)]) ?_ k _ _ ?_;rotate_left
  .exact ⟨0,[],0,H1,kq hh,rfl⟩
  clear hh h H1;rintro m h bs ⟨i,l,n2,H1,hh,rfl⟩;rcases m with _|m
  .rw [zew] at H1;cases H1
  rw [zew] at H1;repeat apply dn
  refine rk [1,4,5,6,12] [] hh fun h hh=>?_;rcases isp H1 with ⟨c1,H1⟩|⟨c1,H1⟩;rotate_left
  .skip;repeat apply dn
   refine cf (f2 hh (zAb c1)) ?_;refine xk ?_;cases H1;exact ce hh ⟨kq hh,rfl⟩
  repeat apply dn
  refine ct (f2 hh (zAa c1)) ?_;repeat apply dn
  refine sk ?_;repeat apply dn
  apply fc;obtain ⟨g2,H1⟩:=isg H1;obtain ⟨g3,H1⟩:=isg H1;repeat apply dn
  refine rg [] [] [.cells true 3 [zbn n.nodes,zbo n.links,zbp n.edges],.cells false (n2+1) ((l++[(gx n.nodes i).name]).map l6),.cells false 0 ([].map l6)] (fun h=>h 1=.ptr 0 0 3/\h 4=.arr 1 1 0 (n2+1) (n2+1) (n2+1)/\h 5=.arr 2 1 0 0 0 0/\h 6=.int .i64 i) (f2 hh (zae g2)) trivial fun h hh=>?_;repeat apply dn
  refine rk [1,4,5,6] [] hh fun h hh=>?_;exact rd m hh ⟨(dw.wrap (i+1)),(l++[(gx n.nodes i).name]),(n2+1),H1,kq hh,rfl⟩
 clear hh h;rintro h bs ⟨hh,rfl⟩;repeat apply dn
 refine rk [1,4,5,7] [] hh fun h hh=>?_;obtain ⟨s_2,H1,H⟩:=zad H;repeat apply dn
 refine cu [4,5] 3 (fun h bs=>(h 4=.arr 1 1 0 s_.2 s_.2 s_.2/\h 5=.arr 2 1 0 s_2.2 s_2.2 s_2.2)/\bs=[.cells true 3 [zbn n.nodes,zbo n.links,zbp n.edges],.cells false s_.2 (s_.1.map l6),.cells false s_2.2 (s_2.1.map l6)]) ?_ ?_
 .skip;repeat apply dn
  apply fc;repeat apply dn
  refine gy [1,4,5,7] (fun m h bs=>∃ (i2:Int) (l2:List ByteArray) (n3:Nat),zev k n m i2 l2 n3=some s_2/\(h 1=.ptr 0 0 3/\h 4=.arr 1 1 0 s_.2 s_.2 s_.2/\h 5=.arr 2 1 0 n3 n3 n3/\h 7=.int .i64 i2)/\bs=[.cells true 3 [zbn n.nodes,zbo n.links,zbp n.edges],.cells false s_.2 (s_.1.map l6),.cells false n3 (l2.map l6)]) ?_ k _ _ ?_;rotate_left
  .exact ⟨0,[],0,H1,kq hh,rfl⟩
  clear hh h H1;rintro m h bs ⟨i2,l2,n3,H1,hh,rfl⟩;rcases m with _|m
  .rw [zev] at H1;cases H1
  rw [zev] at H1;repeat apply dn
  refine rk [1,4,5,7,28] [] hh fun h hh=>?_;rcases isp H1 with ⟨c4,H1⟩|⟨c4,H1⟩;rotate_left
  .skip;repeat apply dn
   refine cf (f2 hh (zAb c4)) ?_;refine xk ?_;cases H1;exact ce hh ⟨kq hh,rfl⟩
  repeat apply dn
  refine ct (f2 hh (zAa c4)) ?_;repeat apply dn
  refine sk ?_;repeat apply dn
  apply fc;obtain ⟨g5,H1⟩:=isg H1;obtain ⟨g6,H1⟩:=isg H1;repeat apply dn
  refine rg [] [] [.cells true 3 [zbn n.nodes,zbo n.links,zbp n.edges],.cells false s_.2 (s_.1.map l6),.cells false (n3+1) ((l2++[(gx n.edges i2).name]).map l6)] (fun h=>h 1=.ptr 0 0 3/\h 4=.arr 1 1 0 s_.2 s_.2 s_.2/\h 5=.arr 2 1 0 (n3+1) (n3+1) (n3+1)/\h 7=.int .i64 i2) (f2 hh (zae g5)) trivial fun h hh=>?_;repeat apply dn
  refine rk [1,4,5,7] [] hh fun h hh=>?_;exact rd m hh ⟨(dw.wrap (i2+1)),(l2++[(gx n.edges i2).name]),(n3+1),H1,kq hh,rfl⟩
 clear hh h;rintro h bs ⟨hh,rfl⟩;repeat apply dn
 refine rk [2,3] [] hh fun h hh=>?_;obtain ⟨g7,H⟩:=isg H;obtain ⟨g8,H⟩:=isg H;refine TW.freeze 2 (b:=1) (e:=1) (off:=0) (len:=s_.2) (cap:=s_.2) (M:=s_.2) (s_.1.map l6) (kq hh) (by rfl) (by omega) (by omega) (by rw [fp,Nat.mul_one,zfz (fun _=>rfl),fk (by rw [ec];omega)]) (fun t ht=>by obtain ⟨x,_,rfl⟩:=List.mem_map.1 ht;first|rfl|exact zpf _|exact zl6 _|exact zl7 _|exact zj1 _ | (rw [ec];rfl)) (by rw [ec]<;>exact g7) (by omega) ?_;rw [zol _ _ _ (by simp only [lzA]<;>omega)];simp only [scA];refine gk [2,3] hh fun h hh=>?_;refine TW.freeze 3 (b:=2) (e:=1) (off:=0) (len:=s_2.2) (cap:=s_2.2) (M:=s_2.2) (s_2.1.map l6) (kq hh) (by rfl) (by omega) (by omega) (by rw [fp,Nat.mul_one,zfz (fun _=>rfl),fk (by rw [ec];omega)]) (fun t ht=>by obtain ⟨x,_,rfl⟩:=List.mem_map.1 ht;first|rfl|exact zpf _|exact zl6 _|exact zl7 _|exact zj1 _ | (rw [ec];rfl)) (by rw [ec]<;>exact g8) (by omega) ?_;rw [zol _ _ _ (by simp only [lzA]<;>omega)];simp only [scA];refine gk [2,3] hh fun h hh=>?_;cases H;exact rt hh
def zer (k:Nat) (s_:ByteArray):Nat->Int->Option (Bool ⊕ Unit)
 |0,_=>none
 |m+1,i=>(if i<(s_.size:Int) then (((if 0<=i/\i<(s_.size:Int) then (if 97<=((bx s_ i).toNat:Int) then some (decide (((bx s_ i).toNat:Int)<=122)) else some false) else none):Option Bool).bind fun s_3=>(((if 0<=i/\i<(s_.size:Int) then (if 48<=((bx s_ i).toNat:Int) then (if ((bx s_ i).toNat:Int)<=57 then some true else some (decide (((bx s_ i).toNat:Int)=95))) else some (decide (((bx s_ i).toNat:Int)=95))) else none):Option Bool).bind fun s_4=>(if s_3=true then zer k s_ m (dw.wrap (i+1)) else (if s_4=true then (if i=0 then some (.inl false) else zer k s_ m (dw.wrap (i+1))) else some (.inl false))))) else some (.inr ()))
def zmu (k:Nat) (s_:ByteArray):Option Bool:=((zer k s_ k 0:Option (Bool ⊕ Unit)).bind fun o=>gr (fun r=>some r) (fun s_2=>(if 1<=(s_.size:Int) then some (decide ((s_.size:Int)<=24)) else some false)) o)
theorem z1z (ax:Axs) (hx:NoAx ax) (k:Nat) (s_:ByteArray) (v:Bool) (H:zmu k s_=some v):Pure Tryz.prog (EE ax) [] 82 [.str s_] (.bool v):=by
 rw [zmu] at H;refine en [.tmp 2] 56 [0] (hx.no _ (by decide)) (fn82 ax) ?_;intro h hh;repeat apply dn
 refine rk [0] [] hh fun h hh=>?_;repeat apply dn
 refine rk [0,3] [] hh fun h hh=>?_;obtain ⟨o,H1,H⟩:=zad H;repeat apply dn
 refine cu [0] 0 (fun h bs=>∃ s_2:Unit,o=.inr s_2/\(h 0=.str s_)/\bs=[]) ?_ ?_
 .skip;repeat apply dn
  apply fc;repeat apply dn
  refine gy [0,3] (fun m h bs=>∃ (i:Int),zer k s_ m i=some o/\(h 0=.str s_/\h 3=.int .i64 i)/\bs=[]) ?_ k _ _ ?_;rotate_left
  .exact ⟨0,H1,kq hh,rfl⟩
  clear hh h H1;rintro m h bs ⟨i,H1,hh,rfl⟩;rcases m with _|m
  .rw [zer] at H1;cases H1
  rw [zer] at H1;repeat apply dn
  refine rk [0,3,9] [] hh fun h hh=>?_;rcases isp H1 with ⟨c1,H1⟩|⟨c1,H1⟩;rotate_left
  .skip;repeat apply dn
   refine cf (f2 hh (zAb c1)) ?_;refine xk ?_;cases H1;exact ce hh ⟨_,rfl,kq hh,rfl⟩
  repeat apply dn
  refine ct (f2 hh (zAa c1)) ?_;repeat apply dn
  refine sk ?_;repeat apply dn
  apply fc;obtain ⟨s_3,H2,H1⟩:=zad H1;repeat apply dn
  refine cu [0,3,4] 0 (fun h bs=>(h 0=.str s_/\h 3=.int .i64 i/\h 4=.bool s_3)/\bs=[]) ?_ ?_
  .skip;obtain ⟨g2,H2⟩:=isg H2;rcases isp H2 with ⟨c3,H2⟩|⟨c3,H2⟩;rotate_left
   .skip;repeat apply dn
    refine rk [0,3,4] [] (f3 hh (zAb c3) (zwa g2)) fun h hh=>?_;cases H2;exact ce hh ⟨kq hh,rfl⟩
   repeat apply dn
   refine rk [0,3,4] [] (f3 hh (zAa c3) (zwa g2)) fun h hh=>?_;cases H2;exact ce hh ⟨kq hh,rfl⟩
  clear hh h;rintro h bs ⟨hh,rfl⟩;obtain ⟨s_4,H2,H1⟩:=zad H1;repeat apply dn
  refine cu [0,3,4,5] 0 (fun h bs=>(h 0=.str s_/\h 3=.int .i64 i/\h 4=.bool s_3/\h 5=.bool s_4)/\bs=[]) ?_ ?_
  .skip;obtain ⟨g4,H2⟩:=isg H2;rcases isp H2 with ⟨c5,H2⟩|⟨c5,H2⟩;rotate_left
   .skip;repeat apply dn
    refine rk [0,3,4,5] [] (f3 hh (zAb c5) (zwa g4)) fun h hh=>?_;cases H2;exact ce hh ⟨kq hh,rfl⟩
   rcases isp H2 with ⟨c6,H2⟩|⟨c6,H2⟩;rotate_left
   .skip;repeat apply dn
    refine rk [0,3,4,5] [] (f3 hh (zAa c5) (f2 (zAb c6) (zwa g4))) fun h hh=>?_;cases H2;exact ce hh ⟨kq hh,rfl⟩
   repeat apply dn
   refine rk [0,3,4,5] [] (f3 hh (zAa c5) (f2 (zAa c6) (zwa g4))) fun h hh=>?_;cases H2;exact ce hh ⟨kq hh,rfl⟩
  clear hh h;rintro h bs ⟨hh,rfl⟩;rcases isb H1 with ⟨c7,H1⟩|⟨c7,H1⟩;rotate_left
  .skip;rcases isb H1 with ⟨c8,H1⟩|⟨c8,H1⟩;rotate_left
   .skip;repeat apply dn
    refine rk [0,3,47] [] (f3 hh c7 c8) fun h hh=>?_;repeat apply dn
    refine ct hh ?_;repeat apply dn
    refine rk [2] [] (f3 hh c7 c8) fun h hh=>?_;cases H1;obtain rfl:=sinl H;exact rt hh
   repeat apply dn
   refine rk [0,3,47] [] (f3 hh c7 c8) fun h hh=>?_;rcases isp H1 with ⟨c9,H1⟩|⟨c9,H1⟩;rotate_left
   .skip;repeat apply dn
    refine cf (f2 hh (zAb c9)) ?_;repeat apply dn
    refine sk ?_;repeat apply dn
    refine rk [0,3] [] (f3 hh c7 c8) fun h hh=>?_;exact rd m hh ⟨(dw.wrap (i+1)),H1,kq hh,rfl⟩
   repeat apply dn
   refine ct (f2 hh (zAa c9)) ?_;repeat apply dn
   refine rk [2] [] (f3 hh c7 c8) fun h hh=>?_;cases H1;obtain rfl:=sinl H;exact rt hh
  repeat apply dn
  refine rk [0,3,47] [] (f2 hh c7) fun h hh=>?_;repeat apply dn
  refine cf hh ?_;repeat apply dn
  refine sk ?_;repeat apply dn
  refine rk [0,3] [] (f2 hh c7) fun h hh=>?_;exact rd m hh ⟨(dw.wrap (i+1)),H1,kq hh,rfl⟩
 clear hh h;rintro h bs ⟨s_2,rfl,hh,rfl⟩;replace H:=sinr H;rcases isp H with ⟨c10,H⟩|⟨c10,H⟩;rotate_left
 .skip;repeat apply dn
  refine rk [2] [] (f2 hh (zAb c10)) fun h hh=>?_;cases H;exact rt hh
 repeat apply dn
 refine rk [2] [] (f2 hh (zAa c10)) fun h hh=>?_;cases H;exact rt hh
def zet (k:Nat) (l:List ByteArray) (i:Int):Nat->Int->Option (Bool ⊕ Unit)
 |0,_=>none
 |m+1,k_=>(if k_<i then (if 0<=k_/\k_<(l.length:Int) then (if (gx l k_)=(gx l i) then some (.inl false) else zet k l i m (dw.wrap (k_+1))) else none) else some (.inr ()))
def zeu (k:Nat) (l:List ByteArray):Nat->Int->Option (Bool ⊕ Unit)
 |0,_=>none
 |m+1,i=>(if i<(l.length:Int) then (((if 0<=i/\i<(l.length:Int) then ((zmu k (gx l i)).bind fun co=>(if co=true then ((zet k l i k 0:Option (Bool ⊕ Unit)).bind fun o=>gr (fun r=>some (.inl r)) (fun s_3=>some (.inr ())) o) else some (.inl false))) else none):Option (Bool ⊕ Unit)).bind fun o2=>gr (fun r=>some (.inl r)) (fun s_2=>zeu k l m (dw.wrap (i+1))) o2) else some (.inr ()))
def zjd (k:Nat) (l:List ByteArray):Option Bool:=((zeu k l k 0:Option (Bool ⊕ Unit)).bind fun o3=>gr (fun r=>some r) (fun s_=>some true) o3)
theorem zps (ax:Axs) (hx:NoAx ax) (k:Nat) (l:List ByteArray) (v:Bool) (H:zjd k l=some v):Pure Tryz.prog (EE ax) [] 38 [strs l] (.bool v):=by
 rw [zjd] at H;refine en [.tmp 2] 33 [0] (hx.no _ (by decide)) (fn38 ax) ?_;intro h hh;repeat apply dn
 refine rk [0] [] hh fun h hh=>?_;repeat apply dn
 refine rk [0,3] [] hh fun h hh=>?_;obtain ⟨o3,H1,H⟩:=zad H;repeat apply dn
 refine cu [] 0 (fun h bs=>∃ s_:Unit,o3=.inr s_/\(True)/\bs=[]) ?_ ?_
 .skip;repeat apply dn
  apply fc;repeat apply dn
  refine gy [0,3] (fun m h bs=>∃ (i:Int),zeu k l m i=some o3/\(h 0=strs l/\h 3=.int .i64 i)/\bs=[]) ?_ k _ _ ?_;rotate_left
  .exact ⟨0,H1,kq hh,rfl⟩
  clear hh h H1;rintro m h bs ⟨i,H1,hh,rfl⟩;rcases m with _|m
  .rw [zeu] at H1;cases H1
  rw [zeu] at H1;repeat apply dn
  refine rk [0,3,9] [] hh fun h hh=>?_;rcases isp H1 with ⟨c1,H1⟩|⟨c1,H1⟩;rotate_left
  .skip;repeat apply dn
   refine cf (f2 hh (zAb c1)) ?_;refine xk ?_;cases H1;exact ce hh ⟨_,rfl,kq hh,rfl⟩
  repeat apply dn
  refine ct (f2 hh (zAa c1)) ?_;repeat apply dn
  refine sk ?_;obtain ⟨o2,H2,H1⟩:=zad H1;repeat apply dn
  refine cu [0,3] 0 (fun h bs=>∃ s_2:Unit,o2=.inr s_2/\(h 0=strs l/\h 3=.int .i64 i)/\bs=[]) ?_ ?_
  .skip;repeat apply dn
   apply fc;obtain ⟨g2,H2⟩:=isg H2;obtain ⟨co,e3,H2⟩:=zad H2;repeat apply dn
   refine rkp [0,3,4] [] [.bool co] (f2 hh (zae g2)) ?_ ?_
   .exact ⟨ey ((z1z ax hx k (gx l i) co e3 ).call _),trivial⟩
   clear hh h;intro h hh;repeat apply dn
   refine rk [0,3,18] [] hh fun h hh=>?_;rcases isb H2 with ⟨c4,H2⟩|⟨c4,H2⟩;rotate_left
   .skip;repeat apply dn
    refine ct (f2 hh c4) ?_;repeat apply dn
    refine rk [2] [] (f2 hh c4) fun h hh=>?_;cases H2;obtain rfl:=sinm H1;obtain rfl:=sinl H;exact rt hh
   repeat apply dn
   refine cf (f2 hh c4) ?_;repeat apply dn
   refine sk ?_;repeat apply dn
   refine rk [0,3,5] [] (f2 hh c4) fun h hh=>?_;obtain ⟨o,H3,H2⟩:=zad H2;repeat apply dn
   refine cu [0,3] 0 (fun h bs=>∃ s_3:Unit,o=.inr s_3/\(h 0=strs l/\h 3=.int .i64 i)/\bs=[]) ?_ ?_
   .skip;repeat apply dn
    apply fc;repeat apply dn
    refine gy [0,3,5] (fun m h bs=>∃ (k_:Int),zet k l i m k_=some o/\(h 0=strs l/\h 3=.int .i64 i/\h 5=.int .i64 k_)/\bs=[]) ?_ k _ _ ?_;rotate_left
    .exact ⟨0,H3,kq hh,rfl⟩
    clear hh h H3;rintro m h bs ⟨k_,H3,hh,rfl⟩;rcases m with _|m
    .rw [zet] at H3;cases H3
    rw [zet] at H3;repeat apply dn
    refine rk [0,3,5,21] [] (f2 hh c4) fun h hh=>?_;rcases isp H3 with ⟨c5,H3⟩|⟨c5,H3⟩;rotate_left
    .skip;repeat apply dn
     refine cf (f2 hh (zAb c5)) ?_;refine xk ?_;cases H3;exact ce hh ⟨_,rfl,kq hh,rfl⟩
    repeat apply dn
    refine ct (f2 hh (zAa c5)) ?_;repeat apply dn
    refine sk ?_;repeat apply dn
    apply fc;obtain ⟨g6,H3⟩:=isg H3;repeat apply dn
    refine dk 8 [0,3,5,32] [] [] [] (f3 hh c4 (f2 (zae g6) (zae g2))) trivial trivial fun h hh=>?_;rcases isp H3 with ⟨c7,H3⟩|⟨c7,H3⟩;rotate_left
    .skip;repeat apply dn
     refine cf (f2 hh (zAb c7)) ?_;repeat apply dn
     refine sk ?_;repeat apply dn
     refine rk [0,3,5] [] (f2 hh c4) fun h hh=>?_;exact rd m hh ⟨(dw.wrap (k_+1)),H3,kq hh,rfl⟩
    repeat apply dn
    refine ct (f2 hh (zAa c7)) ?_;repeat apply dn
    refine rk [2] [] (f2 hh c4) fun h hh=>?_;cases H3;obtain rfl:=sinm H2;obtain rfl:=sinm H1;obtain rfl:=sinl H;exact rt hh
   clear hh h;rintro h bs ⟨s_3,rfl,hh,rfl⟩;replace H2:=sinr H2;cases H2;exact ce hh ⟨_,rfl,kq hh,rfl⟩
  clear hh h;rintro h bs ⟨s_2,rfl,hh,rfl⟩;replace H1:=sinr H1;repeat apply dn
  refine rk [0,3] [] hh fun h hh=>?_;exact rd m hh ⟨(dw.wrap (i+1)),H1,kq hh,rfl⟩
 clear hh h;rintro h bs ⟨s_,rfl,hh,rfl⟩;replace H:=sinr H;repeat apply dn
 refine rk [2] [] hh fun h hh=>?_;cases H;exact rt hh
def zg0 (k:Nat) (n:Net) (k_:Int):Option Bool:=(if 0<=k_ then some (decide (k_<(n.nodes.length:Int))) else some false)
theorem zb1 (ax:Axs) (hx:NoAx ax) (k:Nat) (n:Net) (k_:Int) (v:Bool) (H:zg0 k n k_=some v):Pure Tryz.prog (EE ax) [] 39 [eNet n,.int .i64 k_] (.bool v):=by
 rw [zg0] at H;refine en [.tmp 4] 14 [0,1] (hx.no _ (by decide)) (fn39 ax) ?_;intro h hh;repeat apply dn
 refine rk [1,2] [] hh fun h hh=>?_;rcases isp H with ⟨c1,H⟩|⟨c1,H⟩;rotate_left
 .skip;repeat apply dn
  refine rk [4] [] (f2 hh (zAb c1)) fun h hh=>?_;cases H;exact rt hh
 repeat apply dn
 refine rk [4] [] (f2 hh (zAa c1)) fun h hh=>?_;cases H;exact rt hh
def zez (k:Nat) (n:Net):Nat->Int->Option (Int ⊕ Unit)
 |0,_=>none
 |m+1,i=>(if i<(n.nodes.length:Int) then (if 0<=i/\i<(n.nodes.length:Int) then (if ((gx n.nodes i).rules)<0 then some (.inl 1) else (if 4000<((gx n.nodes i).rules) then some (.inl 1) else (if ((gx n.nodes i).entries)<0 then some (.inl 1) else (if 100000<((gx n.nodes i).entries) then some (.inl 1) else zez k n m (dw.wrap (i+1)))))) else none) else some (.inr ()))
def zey (k:Nat) (n:Net):Nat->Int->Option (Int ⊕ Unit)
 |0,_=>none
 |m+1,i2=>(if i2<(n.links.length:Int) then (if 0<=i2/\i2<(n.links.length:Int) then ((zg0 k n ((gx n.links i2).frm)).bind fun aq=>(if aq=true then ((zg0 k n ((gx n.links i2).to)).bind fun az=>(if az=true then (if ((gx n.links i2).frm)=((gx n.links i2).to) then some (.inl 1) else (if ((gx n.links i2).cap)<0 then some (.inl 1) else (if 1048576<((gx n.links i2).cap) then some (.inl 1) else zey k n m (dw.wrap (i2+1))))) else some (.inl 1))) else some (.inl 1))) else none) else some (.inr ()))
def zex (k:Nat) (n:Net):Nat->Int->Option (Int ⊕ Unit)
 |0,_=>none
 |m+1,i3=>(if i3<(n.edges.length:Int) then (if 0<=i3/\i3<(n.edges.length:Int) then ((zg0 k n ((gx n.edges i3).node)).bind fun cq=>(if cq=true then zex k n m (dw.wrap (i3+1)) else some (.inl 1))) else none) else some (.inr ()))
def zk3 (k:Nat) (n:Net):Option Int:=(((if 200<(n.nodes.length:Int) then some true else (if 2000<(n.links.length:Int) then some true else some (decide (400<(n.edges.length:Int))))):Option Bool).bind fun s_=>(if s_=true then some 2 else ((zk2 k n).bind fun bq=>((zjd k bq.1).bind fun cr=>((zjd k bq.2).bind fun cw=>(((if cr=true then some (!cw) else some true):Option Bool).bind fun s_2=>(if s_2=true then some 4 else ((zez k n k 0:Option (Int ⊕ Unit)).bind fun o3=>gr (fun r=>some r) (fun s_3=>((zey k n k 0:Option (Int ⊕ Unit)).bind fun o2=>gr (fun r=>some r) (fun s_4=>((zex k n k 0:Option (Int ⊕ Unit)).bind fun o=>gr (fun r=>some r) (fun s_5=>some 0) o)) o2)) o3))))))))
theorem zz2 (ax:Axs) (hx:NoAx ax) (k:Nat) (n:Net) (v:Int) (H:zk3 k n=some v):Pure Tryz.prog (EE ax) [] 9 [eNet n] (.int .i64 v):=by
 rw [zk3] at H;refine en [.tmp 2] 130 [0] (hx.no _ (by decide)) (fn9 ax) ?_;intro h hh;repeat apply dn
 refine rk [1] [] hh fun h hh=>?_;obtain ⟨s_,H1,H⟩:=zad H;repeat apply dn
 refine cu [1,27] 1 (fun h bs=>(h 1=.ptr 0 0 3/\h 27=.bool s_)/\bs=[.cells true 3 [zbn n.nodes,zbo n.links,zbp n.edges]]) ?_ ?_
 .skip;rcases isp H1 with ⟨c1,H1⟩|⟨c1,H1⟩;rotate_left
  .skip;rcases isp H1 with ⟨c2,H1⟩|⟨c2,H1⟩;rotate_left
   .skip;repeat apply dn
    refine rk [1,27] [] (f3 hh (zAb c1) (zAb c2)) fun h hh=>?_;cases H1;exact ce hh ⟨kq hh,rfl⟩
   repeat apply dn
   refine rk [1,27] [] (f3 hh (zAb c1) (zAa c2)) fun h hh=>?_;cases H1;exact ce hh ⟨kq hh,rfl⟩
  repeat apply dn
  refine rk [1,27] [] (f2 hh (zAa c1)) fun h hh=>?_;cases H1;exact ce hh ⟨kq hh,rfl⟩
 clear hh h;rintro h bs ⟨hh,rfl⟩;rcases isb H with ⟨c3,H⟩|⟨c3,H⟩;rotate_left
 .skip;repeat apply dn
  refine cf (f2 hh c3) ?_;repeat apply dn
  refine sk ?_;obtain ⟨bq,e4,H⟩:=zad H;repeat apply dn
  refine rkp [1,3,4] [] [.tup [strs bq.1,strs bq.2]] (f2 hh c3) ?_ ?_
  .exact ⟨ey (fh (zz1 ax hx k n bq e4 ) (by first|rfl|simp only [c3])),trivial⟩
  clear hh h;intro h hh;obtain ⟨cr,e5,H⟩:=zad H;repeat apply dn
  refine rkp [1,4,5] [] [.bool cr] (f2 hh c3) ?_ ?_
  .exact ⟨ey (fh (zps ax hx k bq.1 cr e5 ) (by first|rfl|simp only [c3])),trivial⟩
  clear hh h;intro h hh;obtain ⟨cw,e6,H⟩:=zad H;repeat apply dn
  refine rkp [1,5,6] [] [.bool cw] (f2 hh c3) ?_ ?_
  .exact ⟨ey (fh (zps ax hx k bq.2 cw e6 ) (by first|rfl|simp only [c3])),trivial⟩
  clear hh h;intro h hh;obtain ⟨s_2,H1,H⟩:=zad H;repeat apply dn
  refine cu [1,42] 1 (fun h bs=>(h 1=.ptr 0 0 3/\h 42=.bool s_2)/\bs=[.cells true 3 [zbn n.nodes,zbo n.links,zbp n.edges]]) ?_ ?_
  .skip;rcases isb H1 with ⟨c7,H1⟩|⟨c7,H1⟩;rotate_left
   .skip;repeat apply dn
    refine rk [1,42] [] (f3 hh c7 c3) fun h hh=>?_;cases H1;exact ce hh ⟨kq hh,rfl⟩
   repeat apply dn
   refine rk [1,42] [] (f3 hh c7 c3) fun h hh=>?_;cases H1;exact ce hh ⟨kq hh,rfl⟩
  clear hh h;rintro h bs ⟨hh,rfl⟩;rcases isb H with ⟨c8,H⟩|⟨c8,H⟩;rotate_left
  .skip;repeat apply dn
   refine cf (f2 hh c8) ?_;repeat apply dn
   refine sk ?_;repeat apply dn
   refine rk [1,7] [] (f3 hh c3 c8) fun h hh=>?_;obtain ⟨o3,H1,H⟩:=zad H;repeat apply dn
   refine cu [1] 1 (fun h bs=>∃ s_3:Unit,o3=.inr s_3/\(h 1=.ptr 0 0 3)/\bs=[.cells true 3 [zbn n.nodes,zbo n.links,zbp n.edges]]) ?_ ?_
   .skip;repeat apply dn
    apply fc;repeat apply dn
    refine gy [1,7] (fun m h bs=>∃ (i:Int),zez k n m i=some o3/\(h 1=.ptr 0 0 3/\h 7=.int .i64 i)/\bs=[.cells true 3 [zbn n.nodes,zbo n.links,zbp n.edges]]) ?_ k _ _ ?_;rotate_left
    .exact ⟨0,H1,kq hh,rfl⟩
    clear hh h H1;rintro m h bs ⟨i,H1,hh,rfl⟩;rcases m with _|m
    .rw [zez] at H1;cases H1
    rw [zez] at H1;repeat apply dn
    refine rk [1,7,47] [] (f3 hh c3 c8) fun h hh=>?_;rcases isp H1 with ⟨c9,H1⟩|⟨c9,H1⟩;rotate_left
    .skip;repeat apply dn
     refine cf (f2 hh (zAb c9)) ?_;refine xk ?_;cases H1;exact ce hh ⟨_,rfl,kq hh,rfl⟩
    repeat apply dn
    refine ct (f2 hh (zAa c9)) ?_;repeat apply dn
    refine sk ?_;repeat apply dn
    apply fc;obtain ⟨g10,H1⟩:=isg H1;repeat apply dn
    refine rk [1,7,8] [] (f3 hh c3 (f2 c8 (zae g10))) fun h hh=>?_;rcases isp H1 with ⟨c11,H1⟩|⟨c11,H1⟩;rotate_left
    .skip;rcases isp H1 with ⟨c12,H1⟩|⟨c12,H1⟩;rotate_left
     .skip;rcases isp H1 with ⟨c13,H1⟩|⟨c13,H1⟩;rotate_left
      .skip;repeat apply dn
       refine rk [1,7,72] [] (f3 hh (zAb c11) (f3 (zAb c12) (zAb c13) (f2 c3 c8))) fun h hh=>?_;rcases isp H1 with ⟨c14,H1⟩|⟨c14,H1⟩;rotate_left
       .skip;repeat apply dn
        refine cf (f2 hh (zAb c14)) ?_;repeat apply dn
        refine sk ?_;repeat apply dn
        refine rk [1,7] [] (f3 hh c3 c8) fun h hh=>?_;exact rd m hh ⟨(dw.wrap (i+1)),H1,kq hh,rfl⟩
       repeat apply dn
       refine ct (f2 hh (zAa c14)) ?_;repeat apply dn
       refine rk [2] [] (f3 hh c3 c8) fun h hh=>?_;cases H1;obtain rfl:=sinl H;exact rt hh
      repeat apply dn
      refine rk [1,7,72] [] (f3 hh (zAb c11) (f3 (zAb c12) (zAa c13) (f2 c3 c8))) fun h hh=>?_;repeat apply dn
      refine ct hh ?_;repeat apply dn
      refine rk [2] [] (f3 hh c3 c8) fun h hh=>?_;cases H1;obtain rfl:=sinl H;exact rt hh
     repeat apply dn
     refine rk [1,7,72] [] (f3 hh (zAb c11) (f3 (zAa c12) c3 c8)) fun h hh=>?_;repeat apply dn
     refine ct hh ?_;repeat apply dn
     refine rk [2] [] (f3 hh c3 c8) fun h hh=>?_;cases H1;obtain rfl:=sinl H;exact rt hh
    repeat apply dn
    refine rk [1,7,72] [] (f3 hh (zAa c11) (f2 c3 c8)) fun h hh=>?_;repeat apply dn
    refine ct hh ?_;repeat apply dn
    refine rk [2] [] (f3 hh c3 c8) fun h hh=>?_;cases H1;obtain rfl:=sinl H;exact rt hh
   clear hh h;rintro h bs ⟨s_3,rfl,hh,rfl⟩;replace H:=sinr H;repeat apply dn
   refine rk [1,9] [] (f3 hh c3 c8) fun h hh=>?_;obtain ⟨o2,H1,H⟩:=zad H;repeat apply dn
   refine cu [1] 1 (fun h bs=>∃ s_4:Unit,o2=.inr s_4/\(h 1=.ptr 0 0 3)/\bs=[.cells true 3 [zbn n.nodes,zbo n.links,zbp n.edges]]) ?_ ?_
   .skip;repeat apply dn
    apply fc;repeat apply dn
    refine gy [1,9] (fun m h bs=>∃ (i2:Int),zey k n m i2=some o2/\(h 1=.ptr 0 0 3/\h 9=.int .i64 i2)/\bs=[.cells true 3 [zbn n.nodes,zbo n.links,zbp n.edges]]) ?_ k _ _ ?_;rotate_left
    .exact ⟨0,H1,kq hh,rfl⟩
    clear hh h H1;rintro m h bs ⟨i2,H1,hh,rfl⟩;rcases m with _|m
    .rw [zey] at H1;cases H1
    rw [zey] at H1;repeat apply dn
    refine rk [1,9,77] [] (f3 hh c3 c8) fun h hh=>?_;rcases isp H1 with ⟨c15,H1⟩|⟨c15,H1⟩;rotate_left
    .skip;repeat apply dn
     refine cf (f2 hh (zAb c15)) ?_;refine xk ?_;cases H1;exact ce hh ⟨_,rfl,kq hh,rfl⟩
    repeat apply dn
    refine ct (f2 hh (zAa c15)) ?_;repeat apply dn
    refine sk ?_;repeat apply dn
    apply fc;obtain ⟨g16,H1⟩:=isg H1;repeat apply dn
    refine rk [1,9,10] [] (f3 hh c3 (f2 c8 (zae g16))) fun h hh=>?_;obtain ⟨aq,e17,H1⟩:=zad H1;rcases isb H1 with ⟨c18,H1⟩|⟨c18,H1⟩;rotate_left
    .skip;repeat apply dn
     refine rkp [1,9,113] [] [.bool aq] (f3 hh c18 (f2 c3 c8)) ?_ ?_
     .exact ⟨ey (fh (zb1 ax hx k n ((gx n.links i2).frm) aq e17 ) (by first|rfl|simp only [c3,c8,c18])),trivial⟩
     clear hh h;intro h hh;repeat apply dn
     refine ct hh ?_;repeat apply dn
     refine rk [2] [] (f3 hh c3 (f2 c8 c18)) fun h hh=>?_;cases H1;obtain rfl:=sinl H;exact rt hh
    obtain ⟨az,e19,H1⟩:=zad H1;rcases isb H1 with ⟨c20,H1⟩|⟨c20,H1⟩;rotate_left
    .skip;repeat apply dn
     refine rkp [1,9,113] [] [.bool aq,.bool az] (f3 hh c18 (f3 c20 c3 c8)) ?_ ?_
     .exact ⟨ey (fh (zb1 ax hx k n ((gx n.links i2).frm) aq e17 ) (by first|rfl|simp only [c3,c8,c18,c20])),ey (fh (zb1 ax hx k n ((gx n.links i2).to) az e19 ) (by first|rfl|simp only [c3,c8,c18,c20])),trivial⟩
     clear hh h;intro h hh;repeat apply dn
     refine ct hh ?_;repeat apply dn
     refine rk [2] [] (f3 hh c3 (f3 c8 c18 c20)) fun h hh=>?_;cases H1;obtain rfl:=sinl H;exact rt hh
    rcases isp H1 with ⟨c21,H1⟩|⟨c21,H1⟩;rotate_left
    .skip;rcases isp H1 with ⟨c22,H1⟩|⟨c22,H1⟩;rotate_left
     .skip;repeat apply dn
      refine rkp [1,9,113] [] [.bool aq,.bool az] (f3 hh c18 (f3 c20 (zAb c21) (f3 (zAb c22) c3 c8))) ?_ ?_
      .exact ⟨ey (fh (zb1 ax hx k n ((gx n.links i2).frm) aq e17 ) (by first|rfl|simp only [c3,c8,c18,c20])),ey (fh (zb1 ax hx k n ((gx n.links i2).to) az e19 ) (by first|rfl|simp only [c3,c8,c18,c20])),trivial⟩
      clear hh h;intro h hh;rcases isp H1 with ⟨c23,H1⟩|⟨c23,H1⟩;rotate_left
      .skip;repeat apply dn
       refine cf (f2 hh (zAb c23)) ?_;repeat apply dn
       refine sk ?_;repeat apply dn
       refine rk [1,9] [] (f3 hh c3 (f3 c8 c18 c20)) fun h hh=>?_;exact rd m hh ⟨(dw.wrap (i2+1)),H1,kq hh,rfl⟩
      repeat apply dn
      refine ct (f2 hh (zAa c23)) ?_;repeat apply dn
      refine rk [2] [] (f3 hh c3 (f3 c8 c18 c20)) fun h hh=>?_;cases H1;obtain rfl:=sinl H;exact rt hh
     repeat apply dn
     refine rkp [1,9,113] [] [.bool aq,.bool az] (f3 hh c18 (f3 c20 (zAb c21) (f3 (zAa c22) c3 c8))) ?_ ?_
     .exact ⟨ey (fh (zb1 ax hx k n ((gx n.links i2).frm) aq e17 ) (by first|rfl|simp only [c3,c8,c18,c20])),ey (fh (zb1 ax hx k n ((gx n.links i2).to) az e19 ) (by first|rfl|simp only [c3,c8,c18,c20])),trivial⟩
     clear hh h;intro h hh;repeat apply dn
     refine ct hh ?_;repeat apply dn
     refine rk [2] [] (f3 hh c3 (f3 c8 c18 c20)) fun h hh=>?_;cases H1;obtain rfl:=sinl H;exact rt hh
    repeat apply dn
    refine rkp [1,9,113] [] [.bool aq,.bool az] (f3 hh c18 (f3 c20 (zAa c21) (f2 c3 c8))) ?_ ?_
    .exact ⟨ey (fh (zb1 ax hx k n ((gx n.links i2).frm) aq e17 ) (by first|rfl|simp only [c3,c8,c18,c20])),ey (fh (zb1 ax hx k n ((gx n.links i2).to) az e19 ) (by first|rfl|simp only [c3,c8,c18,c20])),trivial⟩
    clear hh h;intro h hh;repeat apply dn
    refine ct hh ?_;repeat apply dn
    refine rk [2] [] (f3 hh c3 (f3 c8 c18 c20)) fun h hh=>?_;cases H1;obtain rfl:=sinl H;exact rt hh
   clear hh h;rintro h bs ⟨s_4,rfl,hh,rfl⟩;replace H:=sinr H;repeat apply dn
   refine rk [1,11] [] (f3 hh c3 c8) fun h hh=>?_;obtain ⟨o,H1,H⟩:=zad H;repeat apply dn
   refine cu [] 1 (fun h bs=>∃ s_5:Unit,o=.inr s_5/\(True)/\bs=[.cells true 3 [zbn n.nodes,zbo n.links,zbp n.edges]]) ?_ ?_
   .skip;repeat apply dn
    apply fc;repeat apply dn
    refine gy [1,11] (fun m h bs=>∃ (i3:Int),zex k n m i3=some o/\(h 1=.ptr 0 0 3/\h 11=.int .i64 i3)/\bs=[.cells true 3 [zbn n.nodes,zbo n.links,zbp n.edges]]) ?_ k _ _ ?_;rotate_left
    .exact ⟨0,H1,kq hh,rfl⟩
    clear hh h H1;rintro m h bs ⟨i3,H1,hh,rfl⟩;rcases m with _|m
    .rw [zex] at H1;cases H1
    rw [zex] at H1;repeat apply dn
    refine rk [1,11,118] [] (f3 hh c3 c8) fun h hh=>?_;rcases isp H1 with ⟨c24,H1⟩|⟨c24,H1⟩;rotate_left
    .skip;repeat apply dn
     refine cf (f2 hh (zAb c24)) ?_;refine xk ?_;cases H1;exact ce hh ⟨_,rfl,kq hh,rfl⟩
    repeat apply dn
    refine ct (f2 hh (zAa c24)) ?_;repeat apply dn
    refine sk ?_;repeat apply dn
    apply fc;obtain ⟨g25,H1⟩:=isg H1;obtain ⟨cq,e26,H1⟩:=zad H1;repeat apply dn
    refine dk 7 [1,11,129] [] [] [(.bool cq,stL [.cells true 3 [zbn n.nodes,zbo n.links,zbp n.edges]])] (f3 hh c3 (f2 c8 (zae g25))) trivial ?_ ?_
    .exact ⟨ey (fh (zb1 ax hx k n ((gx n.edges i3).node) cq e26 ) (by first|rfl|simp only [c3,c8])),trivial⟩
    clear hh h;intro h hh;rcases isb H1 with ⟨c27,H1⟩|⟨c27,H1⟩;rotate_left
    .skip;repeat apply dn
     refine ct (f2 hh c27) ?_;repeat apply dn
     refine rk [2] [] (f3 hh c3 (f2 c8 c27)) fun h hh=>?_;cases H1;obtain rfl:=sinl H;exact rt hh
    repeat apply dn
    refine cf (f2 hh c27) ?_;repeat apply dn
    refine sk ?_;repeat apply dn
    refine rk [1,11] [] (f3 hh c3 (f2 c8 c27)) fun h hh=>?_;exact rd m hh ⟨(dw.wrap (i3+1)),H1,kq hh,rfl⟩
   clear hh h;rintro h bs ⟨s_5,rfl,hh,rfl⟩;replace H:=sinr H;repeat apply dn
   refine rk [2] [] (f3 hh c3 c8) fun h hh=>?_;cases H;exact rt hh
  repeat apply dn
  refine ct (f2 hh c8) ?_;repeat apply dn
  refine rk [2] [] (f3 hh c3 c8) fun h hh=>?_;cases H;exact rt hh
 repeat apply dn
 refine ct (f2 hh c3) ?_;repeat apply dn
 refine rk [2] [] (f2 hh c3) fun h hh=>?_;cases H;exact rt hh
def zfn (k:Nat) (t:List Rule) (k_:Int):Nat->Int->Option (Bool ⊕ Unit)
 |0,_=>none
 |m+1,i=>(if i<(((gx t k_).outs).length:Int) then (if 0<=i/\i<(((gx t k_).outs).length:Int) then (if 10<((gx ((gx t k_).outs) i).length:Int) then some (.inl false) else zfn k t k_ m (dw.wrap (i+1))) else none) else some (.inr ()))
def zfo (k:Nat) (t:List Rule):Nat->Int->Option (Bool ⊕ Unit)
 |0,_=>none
 |m+1,k_=>(if k_<(t.length:Int) then (((if 0<=k_/\k_<(t.length:Int) then (if 20<(((gx t k_).outs).length:Int) then some (.inl false) else ((zfn k t k_ k 0:Option (Bool ⊕ Unit)).bind fun o=>gr (fun r=>some (.inl r)) (fun s_3=>some (.inr ())) o)) else none):Option (Bool ⊕ Unit)).bind fun o2=>gr (fun r=>some (.inl r)) (fun s_2=>zfo k t m (dw.wrap (k_+1))) o2) else some (.inr ()))
def zpr (k:Nat) (t:List Rule) (most:Int):Option Bool:=((zfo k t k 0:Option (Bool ⊕ Unit)).bind fun o3=>gr (fun r=>some r) (fun s_=>some (decide ((t.length:Int)<=most))) o3)
theorem z5g (ax:Axs) (hx:NoAx ax) (k:Nat) (t:List Rule) (most:Int) (v:Bool) (H:zpr k t most=some v):Pure Tryz.prog (EE ax) [] 35 [zcp t,.int .i64 most] (.bool v):=by
 rw [zpr] at H;refine en [.tmp 4] 44 [0,1] (hx.no _ (by decide)) (fn35 ax) ?_;intro h hh;repeat apply dn
 refine rk [0,1] [] hh fun h hh=>?_;repeat apply dn
 refine rk [0,1,5] [] hh fun h hh=>?_;obtain ⟨o3,H1,H⟩:=zad H;repeat apply dn
 refine cu [0,1] 0 (fun h bs=>∃ s_:Unit,o3=.inr s_/\(h 0=zcp t/\h 1=.int .i64 most)/\bs=[]) ?_ ?_
 .skip;repeat apply dn
  apply fc;repeat apply dn
  refine gy [0,1,5] (fun m h bs=>∃ (k_:Int),zfo k t m k_=some o3/\(h 0=zcp t/\h 1=.int .i64 most/\h 5=.int .i64 k_)/\bs=[]) ?_ k _ _ ?_;rotate_left
  .exact ⟨0,H1,kq hh,rfl⟩
  clear hh h H1;rintro m h bs ⟨k_,H1,hh,rfl⟩;rcases m with _|m
  .rw [zfo] at H1;cases H1
  rw [zfo] at H1;repeat apply dn
  refine rk [0,1,5,10] [] hh fun h hh=>?_;rcases isp H1 with ⟨c1,H1⟩|⟨c1,H1⟩;rotate_left
  .skip;repeat apply dn
   refine cf (f2 hh (zAb c1)) ?_;refine xk ?_;cases H1;exact ce hh ⟨_,rfl,kq hh,rfl⟩
  repeat apply dn
  refine ct (f2 hh (zAa c1)) ?_;repeat apply dn
  refine sk ?_;obtain ⟨o2,H2,H1⟩:=zad H1;repeat apply dn
  refine cu [0,1,5] 0 (fun h bs=>∃ s_2:Unit,o2=.inr s_2/\(h 0=zcp t/\h 1=.int .i64 most/\h 5=.int .i64 k_)/\bs=[]) ?_ ?_
  .skip;repeat apply dn
   apply fc;obtain ⟨g2,H2⟩:=isg H2;repeat apply dn
   refine rk [0,1,5,19] [] (f2 hh (zae g2)) fun h hh=>?_;rcases isp H2 with ⟨c3,H2⟩|⟨c3,H2⟩;rotate_left
   .skip;repeat apply dn
    refine cf (f2 hh (zAb c3)) ?_;repeat apply dn
    refine sk ?_;repeat apply dn
    refine rk [0,1,5,6] [] hh fun h hh=>?_;obtain ⟨o,H3,H2⟩:=zad H2;repeat apply dn
    refine cu [0,1,5] 0 (fun h bs=>∃ s_3:Unit,o=.inr s_3/\(h 0=zcp t/\h 1=.int .i64 most/\h 5=.int .i64 k_)/\bs=[]) ?_ ?_
    .skip;repeat apply dn
     apply fc;repeat apply dn
     refine gy [0,1,5,6] (fun m h bs=>∃ (i:Int),zfn k t k_ m i=some o/\(h 0=zcp t/\h 1=.int .i64 most/\h 5=.int .i64 k_/\h 6=.int .i64 i)/\bs=[]) ?_ k _ _ ?_;rotate_left
     .exact ⟨0,H3,kq hh,rfl⟩
     clear hh h H3;rintro m h bs ⟨i,H3,hh,rfl⟩;rcases m with _|m
     .rw [zfn] at H3;cases H3
     rw [zfn] at H3;repeat apply dn
     refine rk [0,1,5,6,27] [] (f2 hh (zae g2)) fun h hh=>?_;rcases isp H3 with ⟨c4,H3⟩|⟨c4,H3⟩;rotate_left
     .skip;repeat apply dn
      refine cf (f2 hh (zAb c4)) ?_;refine xk ?_;cases H3;exact ce hh ⟨_,rfl,kq hh,rfl⟩
     repeat apply dn
     refine ct (f2 hh (zAa c4)) ?_;repeat apply dn
     refine sk ?_;repeat apply dn
     apply fc;obtain ⟨g5,H3⟩:=isg H3;repeat apply dn
     refine rk [0,1,5,6,39] [] (f3 hh (zae g2) (zae g5)) fun h hh=>?_;rcases isp H3 with ⟨c6,H3⟩|⟨c6,H3⟩;rotate_left
     .skip;repeat apply dn
      refine cf (f2 hh (zAb c6)) ?_;repeat apply dn
      refine sk ?_;repeat apply dn
      refine rk [0,1,5,6] [] hh fun h hh=>?_;exact rd m hh ⟨(dw.wrap (i+1)),H3,kq hh,rfl⟩
     repeat apply dn
     refine ct (f2 hh (zAa c6)) ?_;repeat apply dn
     refine rk [4] [] hh fun h hh=>?_;cases H3;obtain rfl:=sinm H2;obtain rfl:=sinm H1;obtain rfl:=sinl H;exact rt hh
    clear hh h;rintro h bs ⟨s_3,rfl,hh,rfl⟩;replace H2:=sinr H2;cases H2;exact ce hh ⟨_,rfl,kq hh,rfl⟩
   repeat apply dn
   refine ct (f2 hh (zAa c3)) ?_;repeat apply dn
   refine rk [4] [] hh fun h hh=>?_;cases H2;obtain rfl:=sinm H1;obtain rfl:=sinl H;exact rt hh
  clear hh h;rintro h bs ⟨s_2,rfl,hh,rfl⟩;replace H1:=sinr H1;repeat apply dn
  refine rk [0,1,5] [] hh fun h hh=>?_;exact rd m hh ⟨(dw.wrap (k_+1)),H1,kq hh,rfl⟩
 clear hh h;rintro h bs ⟨s_,rfl,hh,rfl⟩;replace H:=sinr H;repeat apply dn
 refine rk [4] [] hh fun h hh=>?_;cases H;exact rt hh
theorem zth {α:Type} [Inhabited α] {l:List α} {i:Nat} (h:i<l.length):l.getD i default∈l:=by
  rw [ef,dv h];exact fo h
def zm6 (n:Net) (k:Int):Prop:=0<=k/\k<(n.nodes.length:Int)
instance (n:Net) (k:Int):Decidable (zm6 n k):=by unfold zm6;infer_instance
structure yak (n:Net):Prop where
  nodes:n.nodes.length<=10
  links:n.links.length<=30
  rules:∀ k,k<n.nodes.length->0<=(n.nodes.getD k default).rules/\(n.nodes.getD k default).rules<=4000
  frm:∀ k,k<n.links.length->0<=(n.links.getD k default).frm/\(n.links.getD k default).frm<(n.nodes.length:Int)
  to:∀ k,k<n.links.length->0<=(n.links.getD k default).to/\(n.links.getD k default).to<(n.nodes.length:Int)
  apart:∀ k,k<n.links.length->(n.links.getD k default).frm≠(n.links.getD k default).to
  cap:∀ k,k<n.links.length->0<=(n.links.getD k default).cap/\(n.links.getD k default).cap<=1048576
theorem you (k:Nat) (s:ByteArray) (hs:s.size<9223372036854775808):∀ (m i:Nat),i<=s.size->s.size - i<m->∃ r,zer k s m (i:Int)=some r:=by
  intro m
  induction m with
  |zero=>intro i h1 h2;omega
  |succ m ih =>
    intro i h1 h2;rw [zer];by_cases c:(i:Int)<(s.size:Int)
    . obtain ⟨r,hr⟩:=ih (i+1) (by omega) (by omega);have g:(0:Int)<=(i:Int)/\(i:Int)<(s.size:Int):=⟨by omega,c⟩
      have A1:∃ b,(if (0:Int)<=(i:Int)/\(i:Int)<(s.size:Int) then (if 97<=((bx s (i:Int)).toNat:Int) then some (decide (((bx s (i:Int)).toNat:Int)<=122)) else some false) else none)=some b:=by
        rw [zAc g];split<;>exact ⟨_,rfl⟩
      have A2:∃ b,(if (0:Int)<=(i:Int)/\(i:Int)<(s.size:Int) then (if 48<=((bx s (i:Int)).toNat:Int) then (if ((bx s (i:Int)).toNat:Int)<=57 then some true else some (decide (((bx s (i:Int)).toNat:Int)=95))) else some (decide (((bx s (i:Int)).toNat:Int)=95))) else none)=some b:=by
        rw [zAc g];split
        . split<;>exact ⟨_,rfl⟩
        . exact ⟨_,rfl⟩
      obtain ⟨b1,h1⟩:=A1;obtain ⟨b2,h2⟩:=A2;rw [zAc c,h1,h2,zgb i (by omega),hr];simp only [dq]
      (repeat' split)<;>exact ⟨_,rfl⟩
    . rw [zAd c];exact ⟨_,rfl⟩
theorem yj2 {k:Nat} (hk:9223372036854775808<=k) (s:ByteArray) (hs:s.size<9223372036854775808):∃ r,zmu k s=some r:=by
  obtain ⟨r,h⟩:=you k s hs k 0 (by omega) (by omega);rw [show ((0:Nat):Int)=0 from rfl] at h;unfold zmu;rw [h,dq]
  cases r with
  |inl b=>exact ⟨_,rfl⟩
  |inr u=>simp only [Sum.elim_inr];split<;>exact ⟨_,rfl⟩
theorem yin (k:Nat) (l:List ByteArray) (e:Nat) (he:e<l.length) (hl:l.length<9223372036854775808):∀ (m i:Nat),i<=e->e - i<m->∃ r,zet k l (e:Int) m (i:Int)=some r:=by
  intro m
  induction m with
  |zero=>intro i h1 h2;omega
  |succ m ih =>
    intro i h1 h2;rw [zet];by_cases c:(i:Int)<(e:Int)
    . obtain ⟨r,hr⟩:=ih (i+1) (by omega) (by omega);rw [zAc c,zAc ⟨by omega,by omega⟩,zgb i (by omega),hr];split<;>exact ⟨_,rfl⟩
    . rw [zAd c];exact ⟨_,rfl⟩
theorem yio {k:Nat} (hk:9223372036854775808<=k) (l:List ByteArray) (hl:l.length<9223372036854775808) (hs:∀ s,s∈l->s.size<9223372036854775808):∀ (m i:Nat),i<=l.length->l.length - i<m->∃ r,zeu k l m (i:Int)=some r:=by
  intro m
  induction m with
  |zero=>intro i h1 h2;omega
  |succ m ih =>
    intro i h1 h2;rw [zeu];by_cases c:(i:Int)<(l.length:Int)
    . have hi:i<l.length:=by omega
      obtain ⟨r,hr⟩:=ih (i+1) (by omega) (by omega);obtain ⟨b,hb⟩:=yj2 hk (l.getD i default) (hs _ (zth hi));obtain ⟨r1,h1⟩:=yin k l i hi hl k 0 (by omega) (by omega);rw [show ((0:Nat):Int)=0 from rfl] at h1;rw [zAc c,zAc ⟨by omega,c⟩,zgb i (by omega),zjy l i,hb,h1,hr]
      cases b with
      |false=>exact ⟨_,rfl⟩
      |true=>cases r1<;>exact ⟨_,rfl⟩
    . rw [zAd c];exact ⟨_,rfl⟩
theorem z22 {k:Nat} (hk:9223372036854775808<=k) (l:List ByteArray) (hl:l.length<9223372036854775808) (hs:∀ s,s∈l->s.size<9223372036854775808):∃ r,zjd k l=some r:=by
  obtain ⟨r,h⟩:=yio hk l hl hs k 0 (by omega) (by omega);rw [show ((0:Nat):Int)=0 from rfl] at h;unfold zjd;rw [h,dq];cases r<;>exact ⟨_,rfl⟩
theorem yj1 (k:Nat) (n:Net) (hn:n.nodes.length<=1000) (hs:∀ x,x∈n.nodes->x.name.size<9223372036854775808):∀ (m i:Nat) (l:List ByteArray),i<=n.nodes.length->n.nodes.length - i<m->l.length=i->(∀ s,s∈l->s.size<9223372036854775808) ->
    ∃ l',zew k n m (i:Int) l i=some (l',l'.length)/\l'.length=n.nodes.length/\∀ s,s∈l'->s.size<9223372036854775808:=by
  intro m
  induction m with
  |zero=>intro i l h1 h2;omega
  |succ m ih =>
    intro i l h1 h2 h3 h4;rw [zew];by_cases c:(i:Int)<(n.nodes.length:Int)
    . have hi:i<n.nodes.length:=by omega
      rw [zAc c,zAc ⟨by omega,c⟩,zAc (by omega),zgb i (by omega),zjy n.nodes i];refine ih (i+1) _ (by omega) (by omega) (by simp [h3]) fun s hm=>?_;rcases List.mem_append.1 hm with q|q
      . exact h4 s q
      . simp only [kb] at q;subst q;exact hs _ (zth hi)
    . rw [zAd c];exact ⟨l,by rw [h3],by omega,h4⟩
theorem yj0 (k:Nat) (n:Net) (hn:n.edges.length<=1000) (hs:∀ x,x∈n.edges->x.name.size<9223372036854775808):∀ (m i:Nat) (l:List ByteArray),i<=n.edges.length->n.edges.length - i<m->l.length=i->(∀ s,s∈l->s.size<9223372036854775808) ->
    ∃ l',zev k n m (i:Int) l i=some (l',l'.length)/\l'.length=n.edges.length/\∀ s,s∈l'->s.size<9223372036854775808:=by
  intro m
  induction m with
  |zero=>intro i l h1 h2;omega
  |succ m ih =>
    intro i l h1 h2 h3 h4;rw [zev];by_cases c:(i:Int)<(n.edges.length:Int)
    . have hi:i<n.edges.length:=by omega
      rw [zAc c,zAc ⟨by omega,c⟩,zAc (by omega),zgb i (by omega),zjy n.edges i];refine ih (i+1) _ (by omega) (by omega) (by simp [h3]) fun s hm=>?_;rcases List.mem_append.1 hm with q|q
      . exact h4 s q
      . simp only [kb] at q;subst q;exact hs _ (zth hi)
    . rw [zAd c];exact ⟨l,by rw [h3],by omega,h4⟩
theorem zm7 {k:Nat} {n:Net} (v:Int):zg0 k n v=some (decide (zm6 n v)):=by
  unfold zg0 zm6;by_cases h:0<=v
  . rw [zAc h];simp [h]
  . rw [zAd h];simp [h]
def yhw (x:Node):Prop:=0<=x.rules/\x.rules<=4000
theorem yqz (k:Nat) (n:Net) (hn:n.nodes.length<=1000):∀ (m i:Nat),i<=n.nodes.length->n.nodes.length - i<m->(∀ j,j<i->yhw (n.nodes.getD j default))->∃ r,zez k n m (i:Int)=some r/\((r=.inr ()/\∀ j,j<n.nodes.length->yhw (n.nodes.getD j default))\/r=.inl 1):=by
  intro m
  induction m with
  |zero=>intro i h1 h2;omega
  |succ m ih =>
    intro i h1 h2 hi;rw [zez];by_cases c:(i:Int)<(n.nodes.length:Int)
    . by_cases q:yhw (n.nodes.getD i default)
      . obtain ⟨r,hr,hq⟩:=ih (i+1) (by omega) (by omega) (fun j hj=>by
          rcases Nat.lt_or_ge j i with w|w
          . exact hi j w
          . rw [show j=i by omega];exact q)
        rw [zAc c,zAc ⟨by omega,c⟩,zgb i (by omega),hr]
        (repeat' split)<;>first|exact ⟨_,rfl,.inr rfl⟩|exact ⟨_,rfl,hq⟩
      . rw [zAc c,zAc ⟨by omega,c⟩];have q':¬ (0<=(gx n.nodes (i:Int)).rules/\(gx n.nodes (i:Int)).rules<=4000):=q;by_cases q1:(gx n.nodes (i:Int)).rules<0
        . rw [zAc q1];exact ⟨_,rfl,.inr rfl⟩
        . rw [zAd q1,zAc (by omega)];exact ⟨_,rfl,.inr rfl⟩
    . rw [zAd c];exact ⟨_,rfl,.inl ⟨rfl,fun j hj=>hi j (by omega)⟩⟩
def ymy (n:Net) (l:Link):Prop:=zm6 n l.frm/\zm6 n l.to/\l.frm≠l.to/\0<=l.cap/\l.cap<=1048576
theorem yqy (k:Nat) (n:Net) (hn:n.links.length<=10000):∀ (m i:Nat),i<=n.links.length->n.links.length - i<m->(∀ j,j<i->ymy n (n.links.getD j default))->∃ r,zey k n m (i:Int)=some r/\((r=.inr ()/\∀ j,j<n.links.length->ymy n (n.links.getD j default))\/r=.inl 1):=by
  intro m
  induction m with
  |zero=>intro i h1 h2;omega
  |succ m ih =>
    intro i h1 h2 h3;rw [zey];by_cases c:(i:Int)<(n.links.length:Int)
    . have hi:i<n.links.length:=by omega
      rw [zAc c,zAc ⟨by omega,c⟩,zgb i (by omega),zjy n.links i,zm7,zm7,dq,dq];by_cases q1:zm6 n (n.links.getD i default).frm
      . rw [zAc (zAa q1)];by_cases q2:zm6 n (n.links.getD i default).to
        . rw [zAc (zAa q2)];by_cases q3:(n.links.getD i default).frm=(n.links.getD i default).to
          . rw [zAc q3];exact ⟨_,rfl,.inr rfl⟩
          . rw [zAd q3];by_cases q4:(n.links.getD i default).cap<0
            . rw [zAc q4];exact ⟨_,rfl,.inr rfl⟩
            . rw [zAd q4];by_cases q5:1048576<(n.links.getD i default).cap
              . rw [zAc q5];exact ⟨_,rfl,.inr rfl⟩
              . rw [zAd q5];exact ih (i+1) (by omega) (by omega) fun j hj=>by rcases Nat.lt_succ_iff_lt_or_eq.1 hj with q|q;exact h3 j q;rw [q];exact ⟨q1,q2,q3,by omega,by omega⟩
        . rw [zAd (by simpa using q2)];exact ⟨_,rfl,.inr rfl⟩
      . rw [zAd (by simpa using q1)];exact ⟨_,rfl,.inr rfl⟩
    . rw [zAd c];exact ⟨_,rfl,.inl ⟨rfl,fun j hj=>h3 j (by omega)⟩⟩
theorem yqx (k:Nat) (n:Net) (hn:n.edges.length<=1000):∀ (m i:Nat),i<=n.edges.length->n.edges.length - i<m->∃ r,zex k n m (i:Int)=some r/\(r=.inr ()\/r=.inl 1):=by
  intro m
  induction m with
  |zero=>intro i h1 h2;omega
  |succ m ih =>
    intro i h1 h2;rw [zex];by_cases c:(i:Int)<(n.edges.length:Int)
    . obtain ⟨r,hr,hq⟩:=ih (i+1) (by omega) (by omega);rw [zAc c,zAc ⟨by omega,c⟩,zgb i (by omega),hr,zm7,dq];split
      . exact ⟨_,rfl,hq⟩
      . exact ⟨_,rfl,.inr rfl⟩
    . rw [zAd c];exact ⟨_,rfl,.inl rfl⟩
structure Held (n:Net):Prop where
  nodes:∀ x,x∈n.nodes->x.name.size<9223372036854775808
  edges:∀ x,x∈n.edges->x.name.size<9223372036854775808
theorem yj3 {k:Nat} (hk:9223372036854775808<=k) (n:Net) (h1:n.nodes.length<=10) (h2:n.links.length<=30) (h3:n.edges.length<=20) (hh:Held n):∃ r,zk3 k n=some r/\(r=0->yak n):=by
  unfold zk3;rw [zAd (by omega),zAd (by omega),dq,zAd (by simp only [decide_eq_true_eq];omega)];obtain ⟨l1,a1,a2,a3⟩:=yj1 k n (by omega) hh.nodes k 0 [] (by omega) (by omega) rfl (fun s hs=>by simp at hs);obtain ⟨l2,b1,b2,b3⟩:=yj0 k n (by omega) hh.edges k 0 [] (by omega) (by omega) rfl (fun s hs=>by simp at hs);obtain ⟨r1,c1⟩:=z22 hk l1 (by omega) a3;obtain ⟨r2,c2⟩:=z22 hk l2 (by omega) b3;obtain ⟨d1,e1,g1⟩:=yqz k n (by omega) k 0 (by omega) (by omega) (fun j hj=>by omega);obtain ⟨d2,e2,g2⟩:=yqy k n (by omega) k 0 (by omega) (by omega) (fun j hj=>by omega);obtain ⟨d3,e3,g3⟩:=yqx k n (by omega) k 0 (by omega) (by omega);rw [show ((0:Nat):Int)=0 from rfl] at a1 b1 e1 e2 e3
  have hN:zk2 k n=some (l1,l2):=by
    unfold zk2;rw [a1,b1];simp
  rw [hN,dq];simp only [c1,c2,dq,e1,e2,e3]
  cases r1 with
  |false=>exact ⟨4,rfl,fun h=>by simp at h⟩
  |true =>
    cases r2 with
    |false=>exact ⟨4,rfl,fun h=>by simp at h⟩
    |true =>
      rcases g1 with ⟨rfl,hnod⟩|rfl
      . rcases g2 with ⟨rfl,hall⟩|rfl
        . have hR:yak n:=⟨h1,h2,hnod,fun j hj=>(hall j hj).1,fun j hj=>(hall j hj).2.1,fun j hj=>(hall j hj).2.2.1,fun j hj=>(hall j hj).2.2.2⟩;rcases g3 with rfl|rfl
          . exact ⟨0,rfl,fun _=>hR⟩
          . exact ⟨1,rfl,fun h=>by simp at h⟩
        . exact ⟨1,rfl,fun h=>by simp at h⟩
      . exact ⟨1,rfl,fun h=>by simp at h⟩
def z0k (t:List Rule) (j:Int):Int:=if j=0 then 65536 else (gx t (j - 1)).prio
def zna (n:Net) (steps:Int) (t:List Rule) (j:Nat):Bool:=zka n steps (t.getD j default) && decide ((t.getD j default).prio<z0k t j)
def zkc (n:Net) (steps:Int) (t:List Rule):Int×Int :=
  if steps<0\/1000<steps then (0,1) else if 4000<t.length then (0,2) else
  match (jc t.length).findSome? (fun j=>if zna n steps t j=true then none else some ((j:Int),(1:Int))) with
  |some r=>r
  |none=>(0,0)
theorem z48 {k:Nat} (n:Net) (steps:Int) (t:List Rule) (ht:ya5 t) (hk:big<=k):zib k n steps t=some (zkc n steps t):=by
  unfold zib zkc
  have hloop:zbj k n steps t k 65536 0=some (sumO ((jc t.length).findSome? (fun j=>if zna n steps t j=true then none else some ((j:Int),(1:Int))))):=by
    refine zlf (L:=fun m i=>zbj k n steps t m (z0k t i) i) t.length _ ht.1 (fun m j h=>?_) (fun m=>by show zbj k n steps t (m+1) _ _=_;rw [zbj,zAd (by omega)]) (ei ht.1 hk);show zbj k n steps t (m+1) (z0k t j) j=_;have hw:dw.wrap ((j:Int)+1)=((j+1:Nat):Int):=zgb j (by have:=ht.1;simp only [big] at this;omega)
    have hlast:z0k t ((j+1:Nat):Int)=t[j].prio:=by
      unfold z0k;rw [zAd (by omega),show ((j+1:Nat):Int) - 1=(j:Int) by omega,zcg h]
    rw [zbj,zAc (zaf h),zAc ⟨by omega,zaf h⟩,zcg h,z1r n steps _ (ht.2 _ (fo h)) hk]
    have hg:zna n steps t j=(zka n steps t[j] && decide (t[j].prio<z0k t j)):=by
      unfold zna;rw [ef,dv h];rfl
    rw [hg,hw,hlast];show ((Option.bind (some (zka n steps t[j])) _).bind _)=_;rw [dq]
    cases zka n steps t[j] with
    |false=>rfl
    |true =>
      simp only [if_true,dq,iw,decide_eq_true_eq];by_cases c:z0k t j<=t[j].prio
      . rw [zAc c,zAd (by omega)]
      . rw [zAd c,zAc (by omega)]
  rw [hloop];by_cases c1:steps<0
  . rw [zAc c1,zAc (show steps<0\/1000<steps from .inl c1)];rfl
  . rw [zAd c1];by_cases c2:1000<steps
    . rw [zAa c2,zAc (show steps<0\/1000<steps from .inr c2)];rfl
    . rw [zAb c2,zAd (show ¬ (steps<0\/1000<steps) by omega),dq];simp only [jd,if_false];by_cases c3:4000<t.length
      . rw [zAc (by omega),zAc c3]
      . rw [zAd (by omega),zAd c3,dq];cases (jc t.length).findSome? _<;>rfl
theorem yd2 {k:Nat} (n:Net) (steps:Int) (t:List Rule) (ht:ya5 t) (hk:big<=k):zk1 k n steps t=some (zkc n steps t):=by
  unfold zk1 zkc
  have hloop:zcu k n steps t k 0=some (sumO ((jc t.length).findSome? (fun j=>if zna n steps t j=true then none else some ((j:Int),(1:Int))))):=by
    refine zlf (L:=zcu k n steps t) t.length _ ht.1 (fun m j h=>?_) (fun m=>by rw [zcu,zAd (by omega)]) (ei ht.1 hk);have hb:j<9223372036854775808:=by have:=ht.1;simp only [big] at this;omega
    rw [zcu,zAc (zaf h),zAc ⟨by omega,zaf h⟩,zcg h,yaz n steps _ (ht.2 _ (fo h)) hk,dq]
    have hg:zna n steps t j=(zka n steps t[j] && decide (t[j].prio<z0k t j)):=by
      unfold zna;rw [ef,dv h];rfl
    rw [hg]
    cases hf:zka n steps t[j] with
    |false=>rfl
    |true =>
      simp only [if_true,iw,decide_eq_true_eq];unfold z0k;by_cases c0:0<(j:Int)
      . have e1:dw.wrap ((j:Int) - 1)=((j - 1:Nat):Int):=by rw [wr64 (by omega)];omega
        have e2:(j:Int) - 1=((j - 1:Nat):Int):=by omega
        have h2:j - 1<t.length:=by omega
        rw [zAc c0,e1,zAc ⟨by omega,by omega⟩,zAd (show ¬ (j:Int)=0 by omega),e2,zcg h2];by_cases c:t[j - 1].prio<=t[j].prio
        . rw [zAc c,zAd (by omega)]
        . rw [zAd c,zAc (by omega)]
      . have hp:t[j].prio<=65535:=by
          unfold zka at hf;simp only [Bool.and_eq_true,decide_eq_true_eq] at hf;exact hf.1.2
        rw [zAd c0,zAc (show (j:Int)=0 by omega),zAc (by omega)]
  rw [hloop];by_cases c1:steps<0
  . rw [zAc c1,zAc (show steps<0\/1000<steps from .inl c1)];rfl
  . rw [zAd c1];by_cases c2:1000<steps
    . rw [zAa c2,zAc (show steps<0\/1000<steps from .inr c2)];rfl
    . rw [zAb c2,zAd (show ¬ (steps<0\/1000<steps) by omega),dq];simp only [jd,if_false];by_cases c3:4000<t.length
      . rw [zAc (by omega),zAc c3]
      . rw [zAd (by omega),zAd c3,dq];cases (jc t.length).findSome? _<;>rfl
def fewT (t:List Rule) (most:Int):Bool:=t.all (fun r=>decide (r.outs.length<=20) && r.outs.all fun l=>decide (l.length<=10)) && decide ((t.length:Int)<=most)
theorem ynl {k:Nat} (t:List Rule) (most:Int) (ht:ya5 t) (hk:big<=k):zpr k t most=some (fewT t most):=by
  unfold zpr fewT
  rw [zlz (L:=zfo k t) t false (fun r=>decide (r.outs.length<=20) && r.outs.all fun l=>decide (l.length<=10)) ht.1 (fun m j h=>by
    rw [zfo,zAc (zaf h),zAc ⟨by omega,zaf h⟩,zcg h];by_cases c:20<(t[j].outs.length:Int)
    . rw [zAc c,zAb (by omega)];rfl
    . rw [zAd c,zAa (by omega)];have hr:=(ht.2 _ (fo h)).1
      rw [zlz (L:=zfn k t (j:Int)) t[j].outs false (fun l=>decide (l.length<=10)) hr (fun m i hi=>by
        rw [zfn,zcg h,zAc (zaf hi),zAc ⟨by omega,zaf hi⟩,zcg hi];by_cases d:10<(t[j].outs[i].length:Int)
        . rw [zAc d,zAb (by omega)];rfl
        . rw [zAd d,zAa (by omega)];rfl) (fun m=>by rw [zfn,zcg h,zAd (by omega)]) (ei hr hk),dq]
      simp only [iw]
      cases t[j].outs.all _<;>rfl) (fun m=>by rw [zfo,zAd (by omega)]) (ei ht.1 hk),dq]
  cases t.all _<;>rfl
end Go.Proofs.YteifcnjpjjaikaaGreat
