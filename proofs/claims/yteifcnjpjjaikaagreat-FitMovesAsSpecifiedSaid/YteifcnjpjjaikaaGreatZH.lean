/- Part 8 of the proof of FitMovesAsSpecified (several texts in one; no further condition). -/
import Derived.Test.YteifcnjpjjaikaaGreatZE
import Derived.Test.YteifcnjpjjaikaaGreatZG
import Derived.WalkKit
import Derived.Laws.BitsAllLaws
import Derived.Test.YteifcnjpjjaikaaGreatRows
import Derived.Test.YteifcnjpjjaikaaGreatZF
set_option linter.unusedSimpArgs false
set_option linter.unusedVariables false
set_option linter.unusedSectionVars false
namespace Go.Proofs.YteifcnjpjjaikaaGreat
set_option maxHeartbeats 8000000
open _root_.And renaming intro->dr
open _root_.BitVec renaming ofInt->gq,toNat_and->nr,toNat_ofInt->ki,toNat_ofNat->oa
open _root_.Bool renaming and_self->ef,false_eq_true->oc,not_false->gd,not_true->ge,true_and->jn
open Go.IntKind renaming i64->dx
open _root_.List renaming all_eq_true->fe,append_assoc->ew,append_nil->fo,cons_append->fk,drop_succ_cons->jh,drop_zero->fl,findSome?_cons->ml,flatten_cons->f5,flatten_nil->ff,getD_eq_getElem?_getD->eh,getElem?_cons_succ->jb,getElem?_cons_zero->fp,getElem?_eq_getElem->d6,getElem?_eq_none->jc,getElem_mem->fi,length_append->ep,length_cons->et,length_map->ed,length_nil->gb,mem_range->ks,mem_singleton->lc,nil_append->eu,range->iz,range'->pp,range'_succ->mz,range_eq_range'->lj,replicate->el,set_cons_succ->jo,set_cons_zero->ju,take_of_length_le->fx
open _root_.Nat renaming add_zero->gw,lt_of_lt_of_le->fb,mod_eq_of_lt->mo,reduceAdd->d8,reduceEqDiff->d9,reduceLT->fm,reduceLeDiff->jk,reduceMul->fw,reduceSub->gp,sub_self->me,zero_add->fy,zero_le->ft
open _root_.Option renaming bind_some->dw
open _root_.Option.some renaming injEq->du
open Go.Proofs.YteifcnjpjjaikaaGreat.Pure renaming clr->f6
open Go.Proofs.YteifcnjpjjaikaaGreat.Sh renaming sz->ov,szL->m8
open _root_.Sum renaming elim->il
open Go.Proofs.YteifcnjpjjaikaaGreat.T renaming cells->gn,idsL->ir,int->dy,ren->pg,renL->ne,str->n5
open Go.Proofs.YteifcnjpjjaikaaGreat.TW renaming block->ey,loopT->gt,seq->dv
open Go.Proofs.YteifcnjpjjaikaaGreat.zap renaming call->fc
set_option maxRecDepth 100000
open Go Go.RowKit
noncomputable def axS:Axs:=z8o 8 (z6j (.bool true)) fun _=>none
theorem ysu:zmw Tryz.prog GG LL axS:=(zmw.none yaf).add (yst (L:=LL) (ax:=fun _=>none) zrc (fn8 fun _=>none) rfl rfl yci)
theorem yqp:axS 8=some (z6j (.bool true)):=ydd _ _ _
theorem yjd:ylv axS:=by
  refine ⟨fun f hf=>ylt _ _ fun h=>?_,rfl,rfl,fun A β s vargs hT hv=>?_⟩
  . subst h;rw [Nat.beq_refl] at hf;cases hf
  . cases hv;exact ⟨.bool true,s,A,β,yln (k:=z6j (.bool true)) yqp rfl,hT,.bool true,Stp.refl⟩
theorem ygt {f:FuncId} {fn:Func} {body:Code} (hfn:(EE axS).fn.at f=some fn) (hb:fn.body=some body) {args:List T} {vs:Array Value} {W:World} (h:RtL W args vs.toList) (hp:Pure Tryz.prog (EE axS) [] f args (.bool true)) :
    Calls Tryz.prog f vs W fun e W'=>e=.returned (.bool true)/\Below W.heap.size W W':=by
  obtain ⟨A,xs,k⟩:=entL (N:=W.heap.size) (G:=GG) (K:=[]) rfl (fun p hp=>by simp at hp) (fun g hg=>by simp [has,GG] at hg) h [];have e:([]:List Seg)++A++[]=A:=by simp
  have kr:=k.vr [];have kl:=k.vl [];have ka:=k.at_ [];rw [e] at kr kl ka;obtain ⟨r1,r2,r3,r4⟩:=yel (G:=GG) (N:=W.heap.size) (K:=[]) (A:=A) rfl (fun p hp=>by simp at hp) (fun p hp=>by simp at hp) (fun g hg=>by simp [has,GG] at hg) ka
  have hT:TRel [] (Low W.heap.size) bx0 ts0 (St (W.heap.size+A.length) (famS W.heap.size [] A) 0 [] []) :=
    ⟨⟨_,rfl⟩,r2,fun f hf=>by have:f<W.heap.size:=hf;show f<W.heap.size+A.length;omega,fun f hf=>absurd hf zj6,fun b b' l l' f hb=>by simp [bx0] at hb,fun b _=>rfl,fun b z N l hb=>by simp [ts0] at hb,fun b l hb=>by simp [ts0] at hb,fun x hx=>by simp at hx⟩
  obtain ⟨v,s2,A',β',e1,e2,e3,e4⟩:=hp.2.2 _ _ _ xs hT kl;cases e3;refine (ylk z7k zrc ysu hfn hb (args':=vs) e1 kr r1 r4 r2 r3).mono ?_;rintro e w' ⟨σ',v',rfl,k1,k2⟩;exact ⟨by rw [zqv 3 rfl k1],k2⟩
theorem ylp {w:Nat} (x y:BitVec w):x &&& ~~~y=x - (x &&& y):=by
  have h1:(x &&& ~~~y) &&& (x &&& y)=0#w:=by
    apply BitVec.eq_of_getLsbD_eq;intro i hi;simp only [BitVec.getLsbD_and,BitVec.getLsbD_not,hi,decide_true,jn,BitVec.getLsbD_zero];cases x.getLsbD i<;>cases y.getLsbD i<;>rfl
  have h2:(x &&& ~~~y) ||| (x &&& y)=x:=by
    apply BitVec.eq_of_getLsbD_eq;intro i hi;simp only [BitVec.getLsbD_or,BitVec.getLsbD_and,BitVec.getLsbD_not,hi,decide_true,jn];cases x.getLsbD i<;>cases y.getLsbD i<;>rfl
  have h3:=BitVec.add_eq_or_of_and_eq_zero _ _ h1;rw [h2] at h3;exact BitVec.eq_sub_iff_add_eq.2 h3
theorem zxl (w:Nat) {a b:Nat} (ha:a<2 ^ w) (hb:b<2 ^ w):a &&& (2 ^ w - 1 - b)=a - (a &&& b):=by
  have h:=congrArg BitVec.toNat (ylp (BitVec.ofNat w a) (BitVec.ofNat w b));rw [nr,BitVec.toNat_not,oa,oa,mo ha,mo hb,BitVec.toNat_sub_of_le,nr,oa,oa,mo ha,mo hb] at h
  . exact h
  . rw [BitVec.le_def,nr];exact Nat.and_le_left
theorem ydg {a b:Nat} (ha:a<9223372036854775808) (hb:b<9223372036854775808):bits .andNot .i64 (a:Int) (b:Int)=((a - (a &&& b):Nat):Int):=by
  have h:=zxl 64 (a:=a) (b:=b) (by omega) (by omega);show dx.wrap ((gq 64 (a:Int) &&& ~~~gq 64 (b:Int)).toNat:Int)=_;rw [nr,BitVec.toNat_not,ki,ki];rw [show ((a:Int) % ((2 ^ 64:Nat):Int)).toNat=a by omega,show ((b:Int) % ((2 ^ 64:Nat):Int)).toNat=b by omega,h];have hc:a - (a &&& b)<9223372036854775808:=by omega
  generalize a - (a &&& b)=c at *;simp [IntKind.wrap,IntKind.bits,IntKind.signed];split<;>omega
abbrev big:Nat:=9223372036854775808
theorem zc7 (i:Nat) (h:i<9223372036854775807):dx.wrap ((i:Int)+1)=((i+1:Nat):Int):=by
  rw [wr64 (by omega)];push_cast;rfl
theorem z46 {α:Type} [Inhabited α] (l:List α) (i:Nat):gx l (i:Int)=l.getD i default:=rfl
theorem zbz {α:Type} [Inhabited α] {l:List α} {i:Nat} (h:i<l.length):gx l (i:Int)=l[i]:=by
  rw [z46,eh,d6 h];rfl
section
variable {α β σ:Type}
def sumO (o:Option β):β ⊕ Unit:=match o with|some b=>.inl b|none=>.inr ()
theorem zol {L : Nat -> Int -> Option (β ⊕ Unit)} (n : Nat) (c : Nat -> Option β) (hn : n < big) (hs : ∀ m (j : Nat), j < n -> L (m + 1) (j : Int) = match c j with | some b => some (.inl b) | none => L m (dx.wrap ((j : Int) + 1)))
    (he:∀ m,L (m+1) (n:Int)=some (.inr ())) {k:Nat} (hk:n<k):L k 0=some (sumO ((iz n).findSome? c)):=by
  have key:∀ m j,j<=n->n - j<m->L m (j:Int)=some (sumO ((pp j (n - j)).findSome? c)):=by
    intro m
    induction m with
    |zero=>intro j h1 h2;omega
    |succ m ih =>
      intro j h1 h2;by_cases hj:j<n
      . rw [hs m j hj,show n - j=(n - (j+1))+1 by omega,mz,ml]
        cases hc:c j with
        |some b=>rfl
        |none =>
          simp only;rw [zc7 j (by simp only [big] at hn;omega)];exact ih (j+1) (by omega) (by omega)
      . obtain rfl:j=n:=by omega
        rw [he,me];rfl
  have:=key k 0 (ft _) (by omega);rw [lj];exact this
theorem ztk {c:Nat->Option β} {d:α->Option β}:∀ (l:List α) (s:Nat),(∀ j (h:j<l.length),c (s+j)=d l[j])->(pp s l.length).findSome? c=l.findSome? d
  |[],s,_=>rfl
  |x :: l,s,h=>by
    rw [et,mz,ml,ml];have h0:=h 0 (by simp);rw [gw] at h0;rw [h0];simp only [List.getElem_cons_zero];rw [ztk l (s+1) fun j hj=>by have:=h (j+1) (by simpa using hj);rw [show s+(j+1)=s+1+j by omega] at this;simpa using this]
theorem ygq {L : Nat -> Int -> Option (β ⊕ Unit)} (l : List α) (c : α -> Option β) (hn : l.length < big) (hs : ∀ m (j : Nat) (h : j < l.length), L (m + 1) (j : Int) = match c l[j] with | some b => some (.inl b) | none => L m (dx.wrap ((j : Int) + 1)))
    (he:∀ m,L (m+1) (l.length:Int)=some (.inr ())) {k:Nat} (hk:l.length<k):L k 0=some (sumO (l.findSome? c)):=by
  rw [zol l.length (fun j=>if h:j<l.length then c l[j] else none) hn (fun m j h=>by rw [hs m j h,dif_pos h]) he hk,lj];rw [ztk l 0 fun j h=>by rw [fy,dif_pos h]]
theorem znz {c:α->Option β} {b:β} {q:α->Bool}:∀ (l:List α),(∀ x,x∈l->c x=if q x=true then none else some b)->l.findSome? c=if l.all q=true then none else some b
  |[],_=>rfl
  |x :: l,h=>by
    rw [ml,h x (.head _),List.all_cons]
    cases hq:q x with
    |true=>simp only [if_true,jn];exact znz l fun y hy=>h y (.tail _ hy)
    |false=>rfl
theorem zom {L:Nat->Int->Option (β ⊕ Unit)} (l:List α) (b:β) (q:α->Bool) (hn:l.length<big) (hs:∀ m (j:Nat) (h:j<l.length),L (m+1) (j:Int)=if q l[j]=true then L m (dx.wrap ((j:Int)+1)) else some (.inl b))
    (he:∀ m,L (m+1) (l.length:Int)=some (.inr ())) {k:Nat} (hk:l.length<k):L k 0=some (if l.all q=true then .inr () else .inl b):=by
  rw [ygq l (fun x=>if q x=true then none else some b) hn (fun m j h=>by rw [hs m j h];cases q l[j]<;>rfl) he hk,znz l fun _ _=>rfl];cases l.all q<;>rfl
theorem zea {L:Nat->Int->Option (β ⊕ Unit)} (n:Nat) (b:β) (q:Nat->Bool) (hn:n<big) (hs:∀ m (j:Nat),j<n->L (m+1) (j:Int)=if q j=true then L m (dx.wrap ((j:Int)+1)) else some (.inl b))
    (he:∀ m,L (m+1) (n:Int)=some (.inr ())) {k:Nat} (hk:n<k):L k 0=some (if (iz n).all q=true then .inr () else .inl b):=by
  rw [zol n (fun x=>if q x=true then none else some b) hn (fun m j h=>by rw [hs m j h];cases q j<;>rfl) he hk,znz _ fun _ _=>rfl];cases (iz n).all q<;>rfl
theorem z4r {L:Nat->Int->σ->Option σ} (n:Nat) (f:σ->Nat->σ) (I:Nat->σ->Prop) (hn:n<big) (hs:∀ m (j:Nat) s,j<n->I j s->L (m+1) (j:Int) s=L m (dx.wrap ((j:Int)+1)) (f s j)/\I (j+1) (f s j))
    (he:∀ m s,I n s->L (m+1) (n:Int) s=some s) {k:Nat} (hk:n<k) {s:σ} (h0:I 0 s):L k 0 s=some ((iz n).foldl f s)/\I n ((iz n).foldl f s):=by
  have key:∀ m j s,j<=n->n - j<m->I j s->L m (j:Int) s=some ((pp j (n - j)).foldl f s)/\I n ((pp j (n - j)).foldl f s):=by
    intro m
    induction m with
    |zero=>intro j s h1 h2;omega
    |succ m ih =>
      intro j s h1 h2 hI;by_cases hj:j<n
      . obtain ⟨a,b⟩:=hs m j s hj hI;rw [a,show n - j=(n - (j+1))+1 by omega,mz,List.foldl_cons,zc7 j (by simp only [big] at hn;omega)];exact ih (j+1) _ (by omega) (by omega) b
      . obtain rfl:j=n:=by omega
        rw [he m s hI,me];exact ⟨rfl,hI⟩
  have:=key k 0 s (ft _) (by omega) h0;rw [lj];exact this
theorem zxm {l:List α} {q:α->Bool}:l.all q=true↔∀ j (h:j<l.length),q l[j]=true:=by
  rw [fe];exact ⟨fun h j hj=>h _ (fi hj),fun h x hx=>by obtain ⟨j,hj,rfl⟩:=List.getElem_of_mem hx;exact h j hj⟩
def idxB (q:α->Bool) (l:List α):Int:=match l.findIdx? q with|some i=>(i:Int)|none=>-1
theorem zt9 (q:α->Bool) (l:List α):decide (0<=idxB q l)=l.any q:=by
  unfold idxB
  cases h:l.findIdx? q with
  |none =>
    have:=List.findIdx?_eq_none_iff.1 h;have e:l.any q=false:=by rw [List.any_eq_false];intro x hx;simp [this x hx]
    rw [e];rfl
  |some i =>
    have:=List.findIdx?_isSome (xs:=l) (p:=q);rw [h] at this;rw [<- this];simp
theorem zl0 {L:Nat->Int->Option (Int ⊕ Unit)} (l:List α) (q:α->Bool) (hn:l.length<big) (hs:∀ m (j:Nat) (h:j<l.length),L (m+1) (j:Int)=if q l[j]=true then some (.inl (j:Int)) else L m (dx.wrap ((j:Int)+1)))
    (he:∀ m,L (m+1) (l.length:Int)=some (.inr ())) {k:Nat} (hk:l.length<k):(L k 0).bind (fun o=>il (fun r=>some r) (fun _=>some (-1)) o)=some (idxB q l):=by
  have h:=zol (L:=L) l.length (fun (j:Nat)=>if (l[j]?).any q=true then some (j:Int) else none) hn (fun m j h=>by
    rw [hs m j h,d6 h];rw [Option.any_some]
    cases q l[j]<;>rfl) he hk
  rw [h,dw,lj]
  have key:∀ (l2 pre:List α),(pp pre.length l2.length).findSome? (fun (j:Nat)=>if ((pre++l2)[j]?).any q=true then some (j:Int) else none)=(l2.findIdx? q).map fun i=>((pre.length+i:Nat):Int):=by
    intro l2
    induction l2 with
    |nil=>intro pre;rfl
    |cons x l2 ih =>
      intro pre;rw [et,mz,ml,List.findIdx?_cons];have e0:(pre++x :: l2)[pre.length]?=some x:=by rw [List.getElem?_append_right (Nat.le_refl _),me];rfl
      rw [e0];rw [Option.any_some]
      cases hq:q x with
      |true=>simp
      |false =>
        simp only [oc,if_false];have:=ih (pre++[x]);rw [ep,List.length_singleton,ew,List.singleton_append] at this;rw [this]
        cases l2.findIdx? q with
        |none=>rfl
        |some i=>simp;omega
  have:=key l [];simp only [gb,eu,fy] at this;rw [this];unfold idxB;cases l.findIdx? q<;>rfl
end
/-! words -/
theorem zud {a b:Nat} (ha:a<9223372036854775808) (hb:b<9223372036854775808):iAnd .i64 (a:Int) (b:Int)=((a &&& b:Nat):Int):=by
  have h:a &&& b<=a:=Nat.and_le_left;show dx.wrap ((gq 64 (a:Int) &&& gq 64 (b:Int)).toNat:Int)=_;rw [nr,ki,ki];rw [show ((a:Int) % ((2 ^ 64:Nat):Int)).toNat=a by omega,show ((b:Int) % ((2 ^ 64:Nat):Int)).toNat=b by omega];exact wr64 (by omega)
theorem ykt {a b:Nat} (ha:a<9223372036854775808) (hb:b<9223372036854775808):iXor .i64 (a:Int) (b:Int)=((a ^^^ b:Nat):Int):=by
  have h:a ^^^ b<2 ^ 63:=Nat.xor_lt_two_pow (by omega) (by omega);show dx.wrap ((gq 64 (a:Int) ^^^ gq 64 (b:Int)).toNat:Int)=_;rw [BitVec.toNat_xor,ki,ki];rw [show ((a:Int) % ((2 ^ 64:Nat):Int)).toNat=a by omega,show ((b:Int) % ((2 ^ 64:Nat):Int)).toNat=b by omega];exact wr64 (by omega)
theorem yhl {a b:Nat} (ha:a<9223372036854775808) (hb:b<9223372036854775808):iOr .i64 (a:Int) (b:Int)=((a ||| b:Nat):Int):=by
  have h:a ||| b<2 ^ 63:=Nat.or_lt_two_pow (by omega) (by omega)
  show dx.wrap ((gq 64 (a:Int) ||| gq 64 (b:Int)).toNat:Int)=_;rw [BitVec.toNat_or,ki,ki];rw [show ((a:Int) % ((2 ^ 64:Nat):Int)).toNat=a by omega,show ((b:Int) % ((2 ^ 64:Nat):Int)).toNat=b by omega];exact wr64 (by omega)
theorem yhm {a b:Nat} (ha:a<9223372036854775808) (hb:b<9223372036854775808):z7y .i64 (a:Int) (b:Int)=((a - (a &&& b):Nat):Int):=ydg ha hb
theorem own:ownKnob Tryz.prog.godebug=none:=by kernel_rfl
theorem z12:laidOutB Tryz.prog=true:=by kernel_rfl
def inI (x:Int):Prop:=-9223372036854775808<=x/\x<=9223372036854775807
theorem yl1 {x:Int} (h:(Lit.int .i64 x).wf=true):inI x:=by
  simp only [Lit.wf,decide_eq_true_eq,IntKind.wrap,IntKind.bits,IntKind.signed] at h;simp at h;have e1:dx.min=-9223372036854775808:=by decide
  have e2:dx.max=9223372036854775807:=by decide
  unfold inI;omega
theorem cf_i {t:T} (h:conf (.int .i64) t):∃ n,t=.int .i64 n/\inI n:=by
  obtain ⟨n,rfl,hw⟩:=h;exact ⟨n,rfl,yl1 hw⟩
theorem yqd {t:T} (h:conf .bool t):∃ b,t=.bool b/\True:=by
  obtain ⟨b,rfl⟩:=h;exact ⟨b,rfl,trivial⟩
theorem z5z {t:T} (h:conf .str t):∃ s,t=.str s/\s.size<big:=by
  obtain ⟨s,rfl,hs⟩:=h;have hm:maxLen<big:=by decide
  exact ⟨s,rfl,by omega⟩
theorem yok {n:Nat} {t:T} (h:conf (.arr .i64 n) t):∃ a:Ar n,t=.agg (a.l.map (dy .i64))/\∀ y,y∈a.l->inI y:=by
  obtain ⟨a,rfl,hw⟩:=h;exact ⟨a,rfl,fun y hy=>yl1 (hw y hy)⟩
theorem zim {α:Type} {f:α->T} {sh:Sh} {p:α->Prop} (hf:∀ t,conf sh t->∃ x,t=f x/\p x) {t:T} (h:conf (.slice sh) t):∃ l:List α,t=.lst sh.sz (l.map f)/\(l.length<big/\∀ x,x∈l->p x):=by
  obtain ⟨l,rfl,hl,hall⟩:=h;have hm:maxLen<big:=by decide
  have key:∀ l:List T,(∀ x,x∈l->conf sh x)->∃ m:List α,l=m.map f/\∀ x,x∈m->p x:=by
    intro l
    induction l with
    |nil=>intro _;exact ⟨[],rfl,fun x hx=>by simp at hx⟩
    |cons t l ih =>
      intro hc;obtain ⟨x,rfl,hp⟩:=hf t (hc t (by simp));obtain ⟨m,rfl,hm⟩:=ih fun y hy=>hc y (by simp [hy]);refine ⟨x :: m,rfl,fun y hy=>?_⟩;rcases List.mem_cons.1 hy with rfl|hy
      . exact hp
      . exact hm y hy
  obtain ⟨m,rfl,hp⟩:=key l hall;rw [ed] at hl;exact ⟨m,rfl,by omega,hp⟩
def zyx:Sh:=.struct [.str,.bool,(.int .i64),(.int .i64)]
def yl3 (x:Node):Prop:=x.name.size<big/\True/\inI x.rules/\inI x.entries
theorem yqg {t:T} (h:conf zyx t):∃ x:Node,t=zrj x/\yl3 x:=by
  obtain ⟨cs,rfl,x0,r0,rfl,h0,x1,r1,rfl,h1,x2,r2,rfl,h2,x3,r3,rfl,h3,rfl⟩:=h;obtain ⟨a0,rfl,q0⟩:=z5z h0;obtain ⟨a1,rfl,q1⟩:=yqd h1;obtain ⟨a2,rfl,q2⟩:=cf_i h2;obtain ⟨a3,rfl,q3⟩:=cf_i h3;exact ⟨⟨a0,a1,a2,a3⟩,by first | (simp only [zrj,gn,ov,m8,zyx,fo,fk,eu,ew,gw,d8];done) | (simp only [zrj,gn,ov,m8,zyx,fo,fk,eu,ew,gw,d8];rfl),q0,q1,q2,q3⟩
def z85:Sh:=.struct [(.int .i64),(.int .i64),(.int .i64),(.int .i64),(.int .i64),(.int .i64)]
def yl2 (x:Offl):Prop:=inI x.node/\inI x.port/\inI x.tag/\inI x.out/\inI x.back/\inI x.first
theorem yqf {t:T} (h:conf z85 t):∃ x:Offl,t=zri x/\yl2 x:=by
  obtain ⟨cs,rfl,x0,r0,rfl,h0,x1,r1,rfl,h1,x2,r2,rfl,h2,x3,r3,rfl,h3,x4,r4,rfl,h4,x5,r5,rfl,h5,rfl⟩:=h;obtain ⟨a0,rfl,q0⟩:=cf_i h0;obtain ⟨a1,rfl,q1⟩:=cf_i h1;obtain ⟨a2,rfl,q2⟩:=cf_i h2;obtain ⟨a3,rfl,q3⟩:=cf_i h3;obtain ⟨a4,rfl,q4⟩:=cf_i h4;obtain ⟨a5,rfl,q5⟩:=cf_i h5;exact ⟨⟨a0,a1,a2,a3,a4,a5⟩,by first | (simp only [zri,gn,ov,m8,z85,fo,fk,eu,ew,gw,d8];done) | (simp only [zri,gn,ov,m8,z85,fo,fk,eu,ew,gw,d8];rfl),q0,q1,q2,q3,q4,q5⟩
def zyy:Sh:=.struct [(.int .i64),(.int .i64),(.int .i64)]
def yl4 (x:Link):Prop:=inI x.frm/\inI x.to/\inI x.cap
theorem yqh {t:T} (h:conf zyy t):∃ x:Link,t=zrk x/\yl4 x:=by
  obtain ⟨cs,rfl,x0,r0,rfl,h0,x1,r1,rfl,h1,x2,r2,rfl,h2,rfl⟩:=h;obtain ⟨a0,rfl,q0⟩:=cf_i h0;obtain ⟨a1,rfl,q1⟩:=cf_i h1;obtain ⟨a2,rfl,q2⟩:=cf_i h2;exact ⟨⟨a0,a1,a2⟩,by first | (simp only [zrk,gn,ov,m8,zyy,fo,fk,eu,ew,gw,d8];done) | (simp only [zrk,gn,ov,m8,zyy,fo,fk,eu,ew,gw,d8];rfl),q0,q1,q2⟩
def zyz:Sh:=.struct [.str,(.int .i64)]
def yl5 (x:Edge):Prop:=x.name.size<big/\inI x.node
theorem yqi {t:T} (h:conf zyz t):∃ x:Edge,t=zrl x/\yl5 x:=by
  obtain ⟨cs,rfl,x0,r0,rfl,h0,x1,r1,rfl,h1,rfl⟩:=h;obtain ⟨a0,rfl,q0⟩:=z5z h0;obtain ⟨a1,rfl,q1⟩:=cf_i h1;exact ⟨⟨a0,a1⟩,by first | (simp only [zrl,gn,ov,m8,zyz,fo,fk,eu,ew,gw,d8];done) | (simp only [zrl,gn,ov,m8,zyz,fo,fk,eu,ew,gw,d8];rfl),q0,q1⟩
def yj2:Sh:=.struct [(.slice zyx),(.slice zyy),(.slice zyz)]
def yo3 (x:Net):Prop:=(x.nodes.length<big/\∀ y,y∈x.nodes->yl3 y)/\(x.links.length<big/\∀ y,y∈x.links->yl4 y)/\(x.edges.length<big/\∀ y,y∈x.edges->yl5 y)
theorem ysk {t:T} (h:conf yj2 t):∃ x:Net,t=eNet x/\yo3 x:=by
  obtain ⟨cs,rfl,x0,r0,rfl,h0,x1,r1,rfl,h1,x2,r2,rfl,h2,rfl⟩:=h;obtain ⟨a0,rfl,q0⟩:=zim (fun _ hh=>yqg hh) h0;obtain ⟨a1,rfl,q1⟩:=zim (fun _ hh=>yqh hh) h1;obtain ⟨a2,rfl,q2⟩:=zim (fun _ hh=>yqi hh) h2;exact ⟨⟨a0,a1,a2⟩,by first | (simp only [eNet,zau,zrj,zav,zrk,zaw,zrl,gn,ov,m8,yj2,zyx,zyy,zyz,fo,fk,eu,ew,gw,d8];done) | (simp only [eNet,zau,zrj,zav,zrk,zaw,zrl,gn,ov,m8,yj2,zyx,zyy,zyz,fo,fk,eu,ew,gw,d8];rfl),q0,q1,q2⟩
def zr3:Sh:=.struct [(.int .i64),.str,(.slice .str),.str,(.int .i64),(.int .i64)]
def ydw (x:zc1):Prop:=inI x.kind/\x.var.size<big/\(x.key.length<big/\∀ y,y∈x.key->y.size<big)/\x.field.size<big/\inI x.n/\inI x.m
theorem yli {t:T} (h:conf zr3 t):∃ x:zc1,t=zht x/\ydw x:=by
  obtain ⟨cs,rfl,x0,r0,rfl,h0,x1,r1,rfl,h1,x2,r2,rfl,h2,x3,r3,rfl,h3,x4,r4,rfl,h4,x5,r5,rfl,h5,rfl⟩:=h;obtain ⟨a0,rfl,q0⟩:=cf_i h0;obtain ⟨a1,rfl,q1⟩:=z5z h1;obtain ⟨a2,rfl,q2⟩:=zim (fun _ hh=>z5z hh) h2;obtain ⟨a3,rfl,q3⟩:=z5z h3;obtain ⟨a4,rfl,q4⟩:=cf_i h4;obtain ⟨a5,rfl,q5⟩:=cf_i h5;exact ⟨⟨a0,a1,a2,a3,a4,a5⟩,by first | (simp only [zht,strs,gn,ov,m8,zr3,fo,fk,eu,ew,gw,d8];done) | (simp only [zht,strs,gn,ov,m8,zr3,fo,fk,eu,ew,gw,d8];rfl),q0,q1,q2,q3,q4,q5⟩
def zu6:Sh:=.struct [(.arr .i64 10),(.arr .i64 10)]
def yo2 (x:Pat):Prop:=(∀ y,y∈x.mask.l->inI y)/\(∀ y,y∈x.bits.l->inI y)
theorem yol {t:T} (h:conf zu6 t):∃ x:Pat,t=ePat x/\yo2 x:=by
  obtain ⟨cs,rfl,x0,r0,rfl,h0,x1,r1,rfl,h1,rfl⟩:=h;obtain ⟨a0,rfl,q0⟩:=yok h0;obtain ⟨a1,rfl,q1⟩:=yok h1;exact ⟨⟨a0,a1⟩,by first | (simp only [ePat,gn,ov,m8,zu6,fo,fk,eu,ew,gw,d8];done) | (simp only [ePat,gn,ov,m8,zu6,fo,fk,eu,ew,gw,d8];rfl),q0,q1⟩
def z3g:Sh:=.struct [(.int .i64),zu6]
def yqy (x:Alt):Prop:=inI x.link/\yo2 x.mod
theorem ysl {t:T} (h:conf z3g t):∃ x:Alt,t=eAlt x/\yqy x:=by
  obtain ⟨cs,rfl,x0,r0,rfl,h0,x1,r1,rfl,h1,rfl⟩:=h;obtain ⟨a0,rfl,q0⟩:=cf_i h0;obtain ⟨a1,rfl,q1⟩:=yol h1;exact ⟨⟨a0,a1⟩,by first | (simp only [eAlt,ePat,gn,ov,m8,z3g,zu6,fo,fk,eu,ew,gw,d8];done) | (simp only [eAlt,ePat,gn,ov,m8,z3g,zu6,fo,fk,eu,ew,gw,d8];rfl),q0,q1⟩
def zyw:Sh:=.struct [(.int .i64),zu6,(.int .i64),(.slice (.slice z3g))]
def ydx (x:Rule):Prop:=inI x.prio/\yo2 x.mat/\inI x.step/\(x.outs.length<big/\∀ y,y∈x.outs->(y.length<big/\∀ y',y'∈y->yqy y'))
theorem yqe {t:T} (h:conf zyw t):∃ x:Rule,t=zai x/\ydx x:=by
  obtain ⟨cs,rfl,x0,r0,rfl,h0,x1,r1,rfl,h1,x2,r2,rfl,h2,x3,r3,rfl,h3,rfl⟩:=h;obtain ⟨a0,rfl,q0⟩:=cf_i h0;obtain ⟨a1,rfl,q1⟩:=yol h1;obtain ⟨a2,rfl,q2⟩:=cf_i h2;obtain ⟨a3,rfl,q3⟩:=zim (fun _ hh=>zim (fun _ hh=>ysl hh) hh) h3;exact ⟨⟨a0,a1,a2,a3⟩,by first | (simp only [zai,ePat,zbb,lAlt,eAlt,gn,ov,m8,zyw,zu6,z3g,fo,fk,eu,ew,gw,d8];done) | (simp only [zai,ePat,zbb,lAlt,eAlt,gn,ov,m8,zyw,zu6,z3g,fo,fk,eu,ew,gw,d8];rfl),q0,q1,q2,q3⟩
def zqk:Sh:=.struct [(.int .i64),(.slice (.slice zyw)),(.slice zr3)]
def zt1 (x:zam):Prop:=inI x.version/\(x.tables.length<big/\∀ y,y∈x.tables->(y.length<big/\∀ y',y'∈y->ydx y'))/\(x.steps.length<big/\∀ y,y∈x.steps->ydw y)
theorem z50 {t:T} (h:conf zqk t):∃ x:zam,t=zds x/\zt1 x:=by
  obtain ⟨cs,rfl,x0,r0,rfl,h0,x1,r1,rfl,h1,x2,r2,rfl,h2,rfl⟩:=h;obtain ⟨a0,rfl,q0⟩:=cf_i h0;obtain ⟨a1,rfl,q1⟩:=zim (fun _ hh=>zim (fun _ hh=>yqe hh) hh) h1;obtain ⟨a2,rfl,q2⟩:=zim (fun _ hh=>yli hh) h2;exact ⟨⟨a0,a1,a2⟩,by first | (simp only [zds,zak,zag,zai,zah,zht,gn,ov,m8,zqk,zu6,z3g,zyw,zr3,fo,fk,eu,ew,gw,d8];done) | (simp only [zds,zak,zag,zai,zah,zht,gn,ov,m8,zqk,zu6,z3g,zyw,zr3,fo,fk,eu,ew,gw,d8];rfl),q0,q1,q2⟩
def zcm (k:Nat) (h_:Ar 10):Nat->Int->Option (Bool ⊕ Unit)
 |0,_=>none
 |m+1,i=>(if i<10 then (if 0<=i/\i<(10:Int) then (if (gx h_.l i)<0 then some (.inl false) else (if 65535<(gx h_.l i) then some (.inl false) else zcm k h_ m (dx.wrap (i+1)))) else none) else some (.inr ()))
def zf5 (k:Nat) (h_:Ar 10):Option Bool:=((zcm k h_ k 0:Option (Bool ⊕ Unit)).bind fun o=>il (fun r=>some r) (fun s_=>some true) o)
theorem zlm (ax:Axs) (hx:NoAx ax) (k:Nat) (h_:Ar 10) (v:Bool) (H:zf5 k h_=some v):Pure Tryz.prog (EE ax) [] 27 [.agg (h_.l.map (dy .i64))] (.bool v):=by
 rw [zf5] at H;refine en [.tmp 2] 18 [0] (hx.no _ (by decide)) (fn27 ax) ?_;intro h hh;apply dv;refine rk [1] [] hh fun h hh=>?_;repeat apply dv
 refine rk [1,3] [] hh fun h hh=>?_;obtain ⟨o,H1,H⟩:=zad H;refine cu [] 1 (fun h bs=>∃ s_:Unit,o=.inr s_/\(True)/\bs=[.cells true 10 (h_.l.map (dy .i64))]) ?_ ?_
 .skip;apply ey;refine gt [1,3] (fun m h bs=>∃ (i:Int),zcm k h_ m i=some o/\(h 1=.ptr 0 0 10/\h 3=.int .i64 i)/\bs=[.cells true 10 (h_.l.map (dy .i64))]) ?_ k _ _ ?_;rotate_left
  .exact ⟨0,H1,kq hh,rfl⟩
  clear hh h H1;rintro m h bs ⟨i,H1,hh,rfl⟩;rcases m with _|m
  .rw [zcm] at H1;cases H1
  rw [zcm] at H1;repeat apply dv
  refine rk [1,3,5] [] hh fun h hh=>?_;rcases isp H1 with ⟨c1,H1⟩|⟨c1,H1⟩;rotate_left
  .skip;refine cf (f2 hh (zAb c1)) ?_;refine xk ?_;cases H1;exact ce hh ⟨_,rfl,kq hh,rfl⟩
  refine ct (f2 hh (zAa c1)) ?_;refine sk ?_;apply dv;apply ey;obtain ⟨g2,H1⟩:=isg H1;rcases isp H1 with ⟨c3,H1⟩|⟨c3,H1⟩;rotate_left
  .skip;apply dv;refine rk [1,3,17] [] (f3 hh (zAb c3) (arIx h_ g2)) fun h hh=>?_;rcases isp H1 with ⟨c4,H1⟩|⟨c4,H1⟩;rotate_left
   .skip;refine cf (f2 hh (zAb c4)) ?_;refine sk ?_;refine rk [1,3] [] hh fun h hh=>?_;exact rd m hh ⟨(dx.wrap (i+1)),H1,kq hh,rfl⟩
   refine ct (f2 hh (zAa c4)) ?_;apply dv;refine rk [2] [] hh fun h hh=>?_;cases H1;obtain rfl:=sinl H;exact rt hh
  apply dv;refine rk [1,3,17] [] (f3 hh (zAa c3) (arIx h_ g2)) fun h hh=>?_;refine ct hh ?_;apply dv;refine rk [2] [] hh fun h hh=>?_;cases H1;obtain rfl:=sinl H;exact rt hh
 clear hh h;rintro h bs ⟨s_,rfl,hh,rfl⟩;replace H:=sinr H;apply dv;refine rk [2] [] hh fun h hh=>?_;cases H;exact rt hh
def zd3 (k:Nat) (b:Ar 10) (m_:Ar 10):Nat->Int->Option (Bool ⊕ Unit)
 |0,_=>none
 |m+1,i=>(if i<10 then (if 0<=i/\i<(10:Int) then (if (iAnd .i64 (gx b.l i) (gx m_.l i))≠(gx b.l i) then some (.inl false) else zd3 k b m_ m (dx.wrap (i+1))) else none) else some (.inr ()))
def zj0 (k:Nat) (b:Ar 10) (m_:Ar 10):Option Bool:=((zd3 k b m_ k 0:Option (Bool ⊕ Unit)).bind fun o=>il (fun r=>some r) (fun s_=>some true) o)
theorem zxv (ax:Axs) (hx:NoAx ax) (k:Nat) (b:Ar 10) (m_:Ar 10) (v:Bool) (H:zj0 k b m_=some v):Pure Tryz.prog (EE ax) [] 127 [.agg (b.l.map (dy .i64)),.agg (m_.l.map (dy .i64))] (.bool v):=by
 rw [zj0] at H;refine en [.tmp 4] 21 [0,1] (hx.no _ (by decide)) (fn127 ax) ?_;intro h hh;apply dv;refine rk [2,3] [] hh fun h hh=>?_;repeat apply dv
 refine rk [2,3,5] [] hh fun h hh=>?_;obtain ⟨o,H1,H⟩:=zad H;refine cu [] 2 (fun h bs=>∃ s_:Unit,o=.inr s_/\(True)/\bs=[.cells true 10 (b.l.map (dy .i64)),.cells true 10 (m_.l.map (dy .i64))]) ?_ ?_
 .skip;apply ey;refine gt [2,3,5] (fun m h bs=>∃ (i:Int),zd3 k b m_ m i=some o/\(h 2=.ptr 0 0 10/\h 3=.ptr 1 0 10/\h 5=.int .i64 i)/\bs=[.cells true 10 (b.l.map (dy .i64)),.cells true 10 (m_.l.map (dy .i64))]) ?_ k _ _ ?_;rotate_left
  .exact ⟨0,H1,kq hh,rfl⟩
  clear hh h H1;rintro m h bs ⟨i,H1,hh,rfl⟩;rcases m with _|m
  .rw [zd3] at H1;cases H1
  rw [zd3] at H1;repeat apply dv
  refine rk [2,3,5,7] [] hh fun h hh=>?_;rcases isp H1 with ⟨c1,H1⟩|⟨c1,H1⟩;rotate_left
  .skip;refine cf (f2 hh (zAb c1)) ?_;refine xk ?_;cases H1;exact ce hh ⟨_,rfl,kq hh,rfl⟩
  refine ct (f2 hh (zAa c1)) ?_;refine sk ?_;apply dv;apply ey;obtain ⟨g2,H1⟩:=isg H1;apply dv;refine dk 10 [2,3,5,20] [] [] [] (f3 hh (arIx b g2) (arIx m_ g2)) trivial trivial fun h hh=>?_;rcases isp H1 with ⟨c3,H1⟩|⟨c3,H1⟩;rotate_left
  .skip;refine cf (f2 hh (zAb c3)) ?_;refine sk ?_;refine rk [2,3,5] [] hh fun h hh=>?_;exact rd m hh ⟨(dx.wrap (i+1)),H1,kq hh,rfl⟩
  refine ct (f2 hh (zAa c3)) ?_;apply dv;refine rk [4] [] hh fun h hh=>?_;cases H1;obtain rfl:=sinl H;exact rt hh
 clear hh h;rintro h bs ⟨s_,rfl,hh,rfl⟩;replace H:=sinr H;apply dv;refine rk [4] [] hh fun h hh=>?_;cases H;exact rt hh
def zjp (k:Nat) (p:Pat):Option Bool:=((zf5 k p.mask).bind fun cn=>((zf5 k p.bits).bind fun co=>(if cn=true then (if co=true then ((zj0 k p.bits p.mask).bind fun cq=>some cq) else some false) else some false)))
theorem zqe (ax:Axs) (hx:NoAx ax) (k:Nat) (p:Pat) (v:Bool) (H:zjp k p=some v):Pure Tryz.prog (EE ax) [] 114 [ePat p] (.bool v):=by
 rw [zjp] at H;refine en [.tmp 2] 22 [0] (hx.no _ (by decide)) (fn114 ax) ?_;intro h hh;apply dv;refine rk [1] [] hh fun h hh=>?_;obtain ⟨cn,e1,H⟩:=zad H;apply dv;refine rkp [1,3] [] [.bool cn] hh ?_ ?_
 .exact ⟨fc ((zlm ax hx k p.mask cn e1 ).call _),trivial⟩
 clear hh h;intro h hh;obtain ⟨co,e2,H⟩:=zad H;apply dv;refine rkp [1,3,4] [] [.bool co] hh ?_ ?_
 .exact ⟨fc ((zlm ax hx k p.bits co e2 ).call _),trivial⟩
 clear hh h;intro h hh;rcases isb H with ⟨c3,H⟩|⟨c3,H⟩;rotate_left
 .skip;apply dv;refine rk [2] [] (f2 hh c3) fun h hh=>?_;cases H;exact rt hh
 rcases isb H with ⟨c4,H⟩|⟨c4,H⟩;rotate_left
 .skip;apply dv;refine rk [2] [] (f3 hh c3 c4) fun h hh=>?_;cases H;exact rt hh
 obtain ⟨cq,e5,H⟩:=zad H;apply dv;refine rkp [2] [] [.bool cq] (f3 hh c3 c4) ?_ ?_
 .exact ⟨fc (f6 (zxv ax hx k p.bits p.mask cq e5 ) (by first|rfl|simp only [c3,c4])),trivial⟩
 clear hh h;intro h hh;cases H;exact rt hh
def zh0 (k:Nat) (m_:Pat):Option Bool:=((zjp k (⟨m_.mask,m_.bits⟩:Pat)).bind fun ak=>some ak)
theorem ztx (ax:Axs) (hx:NoAx ax) (k:Nat) (m_:Pat) (v:Bool) (H:zh0 k m_=some v):Pure Tryz.prog (EE ax) [] 115 [ePat m_] (.bool v):=by
 rw [zh0] at H;refine en [.tmp 2] 9 [0] (hx.no _ (by decide)) (fn115 ax) ?_;intro h hh;apply dv;refine rk [1] [] hh fun h hh=>?_;obtain ⟨ak,e1,H⟩:=zad H;apply dv;refine rkp [2] [] [.bool ak] hh ?_ ?_
 .exact ⟨fc ((zqe ax hx k (⟨m_.mask,m_.bits⟩:Pat) ak e1 ).call _),trivial⟩
 clear hh h;intro h hh;cases H;exact rt hh
def zd1 (k:Nat) (n:Net) (r:Rule) (k_:Int):Nat->Int->Option (Bool ⊕ Unit)
 |0,_=>none
 |m+1,i=>(if 0<=k_/\k_<(r.outs.length:Int) then (if i<((gx r.outs k_).length:Int) then (if 0<=i/\i<((gx r.outs k_).length:Int) then ((zh0 k ((gx (gx r.outs k_) i).mod)).bind fun cr=>(if ((gx (gx r.outs k_) i).link)<(-1) then some (.inl false) else (if (n.links.length:Int)<=((gx (gx r.outs k_) i).link) then some (.inl false) else (if cr=true then zd1 k n r k_ m (dx.wrap (i+1)) else some (.inl false))))) else none) else some (.inr ())) else none)
def zd2 (k:Nat) (n:Net) (r:Rule):Nat->Int->Option (Bool ⊕ Unit)
 |0,_=>none
 |m+1,k_=>(if k_<(r.outs.length:Int) then (((((if 0<=k_/\k_<(r.outs.length:Int) then (if ((gx r.outs k_).length:Int)<1 then some true else some (decide (8<((gx r.outs k_).length:Int)))) else none):Option Bool).bind fun s_4=>(if s_4=true then some (.inl false) else ((zd1 k n r k_ k 0:Option (Bool ⊕ Unit)).bind fun o=>il (fun r=>some (.inl r)) (fun s_5=>some (.inr ())) o))):Option (Bool ⊕ Unit)).bind fun o2=>il (fun r=>some (.inl r)) (fun s_3=>zd2 k n r m (dx.wrap (k_+1))) o2) else some (.inr ()))
def zjz (k:Nat) (n:Net) (steps:Int) (r:Rule):Option Bool:=((zjp k r.mat).bind fun ak=>(((if r.prio<1 then some true else (if 65535<r.prio then some true else (if ak=true then (if r.step<(-1) then some true else (if steps<=r.step then some true else some (decide (16<(r.outs.length:Int))))) else some true))):Option Bool).bind fun s_=>(if s_=true then some false else ((zd2 k n r k 0:Option (Bool ⊕ Unit)).bind fun o3=>il (fun r=>some r) (fun s_2=>some true) o3))))
theorem zxt (ax:Axs) (hx:NoAx ax) (k:Nat) (n:Net) (steps:Int) (r:Rule) (v:Bool) (H:zjz k n steps r=some v):Pure Tryz.prog (EE ax) [] 85 [eNet n,.int .i64 steps,zai r] (.bool v):=by
 rw [zjz] at H;refine en [.tmp 6] 103 [0,1,2] (hx.no _ (by decide)) (fn85 ax) ?_;intro h hh;apply dv;refine rk [1,3,5] [] hh fun h hh=>?_;obtain ⟨ak,e1,H⟩:=zad H;apply dv;refine rkp [1,3,5,7] [] [.bool ak] hh ?_ ?_
 .exact ⟨fc ((zqe ax hx k r.mat ak e1 ).call _),trivial⟩
 clear hh h;intro h hh;obtain ⟨s_,H1,H⟩:=zad H;repeat apply dv
 refine cu [3,5,43] 2 (fun h bs=>(h 3=.ptr 0 0 3/\h 5=.ptr 1 0 23/\h 43=.bool s_)/\bs=[.cells true 3 [zau n.nodes,zav n.links,zaw n.edges],.cells true 23 (dy .i64 r.prio :: (r.mat.mask.l.map (dy .i64)++(r.mat.bits.l.map (dy .i64)++[dy .i64 r.step,zbb r.outs])))]) ?_ ?_
 .skip;rcases isp H1 with ⟨c2,H1⟩|⟨c2,H1⟩;rotate_left
  .skip;rcases isp H1 with ⟨c3,H1⟩|⟨c3,H1⟩;rotate_left
   .skip;rcases isb H1 with ⟨c4,H1⟩|⟨c4,H1⟩;rotate_left
    .skip;refine rk [3,5,43] [] (f3 hh (zAb c2) (f2 (zAb c3) c4)) fun h hh=>?_;cases H1;exact ce hh ⟨kq hh,rfl⟩
    rcases isp H1 with ⟨c5,H1⟩|⟨c5,H1⟩;rotate_left
    .skip;rcases isp H1 with ⟨c6,H1⟩|⟨c6,H1⟩;rotate_left
     .skip;refine rk [3,5,43] [] (f3 hh (zAb c2) (f3 (zAb c3) c4 (f2 (zAb c5) (zAb c6)))) fun h hh=>?_;cases H1;exact ce hh ⟨kq hh,rfl⟩
     refine rk [3,5,43] [] (f3 hh (zAb c2) (f3 (zAb c3) c4 (f2 (zAb c5) (zAa c6)))) fun h hh=>?_;cases H1;exact ce hh ⟨kq hh,rfl⟩
    refine rk [3,5,43] [] (f3 hh (zAb c2) (f3 (zAb c3) c4 (zAa c5))) fun h hh=>?_;cases H1;exact ce hh ⟨kq hh,rfl⟩
   refine rk [3,5,43] [] (f3 hh (zAb c2) (zAa c3)) fun h hh=>?_;cases H1;exact ce hh ⟨kq hh,rfl⟩
  refine rk [3,5,43] [] (f2 hh (zAa c2)) fun h hh=>?_;cases H1;exact ce hh ⟨kq hh,rfl⟩
 clear hh h;rintro h bs ⟨hh,rfl⟩;rcases isb H with ⟨c7,H⟩|⟨c7,H⟩;rotate_left
 .skip;refine cf (f2 hh c7) ?_;refine sk ?_;repeat apply dv
  refine rk [3,5,8] [] (f2 hh c7) fun h hh=>?_;obtain ⟨o3,H1,H⟩:=zad H;refine cu [] 2 (fun h bs=>∃ s_2:Unit,o3=.inr s_2/\(True)/\bs=[.cells true 3 [zau n.nodes,zav n.links,zaw n.edges],.cells true 23 (dy .i64 r.prio :: (r.mat.mask.l.map (dy .i64)++(r.mat.bits.l.map (dy .i64)++[dy .i64 r.step,zbb r.outs])))]) ?_ ?_
  .skip;apply ey;refine gt [3,5,8] (fun m h bs=>∃ (k_:Int),zd2 k n r m k_=some o3/\(h 3=.ptr 0 0 3/\h 5=.ptr 1 0 23/\h 8=.int .i64 k_)/\bs=[.cells true 3 [zau n.nodes,zav n.links,zaw n.edges],.cells true 23 (dy .i64 r.prio :: (r.mat.mask.l.map (dy .i64)++(r.mat.bits.l.map (dy .i64)++[dy .i64 r.step,zbb r.outs])))]) ?_ k _ _ ?_;rotate_left
   .exact ⟨0,H1,kq hh,rfl⟩
   clear hh h H1;rintro m h bs ⟨k_,H1,hh,rfl⟩;rcases m with _|m
   .rw [zd2] at H1;cases H1
   rw [zd2] at H1;repeat apply dv
   refine rk [3,5,8,48] [] (f2 hh c7) fun h hh=>?_;rcases isp H1 with ⟨c8,H1⟩|⟨c8,H1⟩;rotate_left
   .skip;refine cf (f2 hh (zAb c8)) ?_;refine xk ?_;cases H1;exact ce hh ⟨_,rfl,kq hh,rfl⟩
   refine ct (f2 hh (zAa c8)) ?_;refine sk ?_;obtain ⟨o2,H2,H1⟩:=zad H1;apply dv;refine cu [3,5,8] 2 (fun h bs=>∃ s_3:Unit,o2=.inr s_3/\(h 3=.ptr 0 0 3/\h 5=.ptr 1 0 23/\h 8=.int .i64 k_)/\bs=[.cells true 3 [zau n.nodes,zav n.links,zaw n.edges],.cells true 23 (dy .i64 r.prio :: (r.mat.mask.l.map (dy .i64)++(r.mat.bits.l.map (dy .i64)++[dy .i64 r.step,zbb r.outs])))]) ?_ ?_
   .skip;apply ey;obtain ⟨s_4,H3,H2⟩:=zad H2;repeat apply dv
    refine cu [3,5,8,66] 2 (fun h bs=>(h 3=.ptr 0 0 3/\h 5=.ptr 1 0 23/\h 8=.int .i64 k_/\h 66=.bool s_4)/\bs=[.cells true 3 [zau n.nodes,zav n.links,zaw n.edges],.cells true 23 (dy .i64 r.prio :: (r.mat.mask.l.map (dy .i64)++(r.mat.bits.l.map (dy .i64)++[dy .i64 r.step,zbb r.outs])))]) ?_ ?_
    .skip;obtain ⟨g9,H3⟩:=isg H3;rcases isp H3 with ⟨c10,H3⟩|⟨c10,H3⟩;rotate_left
     .skip;refine rk [3,5,8,66] [] (f3 hh (zAb c10) (f2 c7 (zaf g9))) fun h hh=>?_;cases H3;exact ce hh ⟨kq hh,rfl⟩
     refine rk [3,5,8,66] [] (f3 hh (zAa c10) (f2 c7 (zaf g9))) fun h hh=>?_;cases H3;exact ce hh ⟨kq hh,rfl⟩
    clear hh h;rintro h bs ⟨hh,rfl⟩;rcases isb H2 with ⟨c11,H2⟩|⟨c11,H2⟩;rotate_left
    .skip;refine cf (f2 hh c11) ?_;refine sk ?_;apply dv;refine rk [3,5,8,9] [] (f3 hh c7 c11) fun h hh=>?_;obtain ⟨o,H3,H2⟩:=zad H2;refine cu [3,5,8] 2 (fun h bs=>∃ s_5:Unit,o=.inr s_5/\(h 3=.ptr 0 0 3/\h 5=.ptr 1 0 23/\h 8=.int .i64 k_)/\bs=[.cells true 3 [zau n.nodes,zav n.links,zaw n.edges],.cells true 23 (dy .i64 r.prio :: (r.mat.mask.l.map (dy .i64)++(r.mat.bits.l.map (dy .i64)++[dy .i64 r.step,zbb r.outs])))]) ?_ ?_
     .skip;apply ey;refine gt [3,5,8,9] (fun m h bs=>∃ (i:Int),zd1 k n r k_ m i=some o/\(h 3=.ptr 0 0 3/\h 5=.ptr 1 0 23/\h 8=.int .i64 k_/\h 9=.int .i64 i)/\bs=[.cells true 3 [zau n.nodes,zav n.links,zaw n.edges],.cells true 23 (dy .i64 r.prio :: (r.mat.mask.l.map (dy .i64)++(r.mat.bits.l.map (dy .i64)++[dy .i64 r.step,zbb r.outs])))]) ?_ k _ _ ?_;rotate_left
      .exact ⟨0,H3,kq hh,rfl⟩
      clear hh h H3;rintro m h bs ⟨i,H3,hh,rfl⟩;rcases m with _|m
      .rw [zd1] at H3;cases H3
      rw [zd1] at H3;obtain ⟨g12,H3⟩:=isg H3;repeat apply dv
      refine rk [3,5,8,9,74] [] (f3 hh c7 (f2 c11 (zaf g12))) fun h hh=>?_;rcases isp H3 with ⟨c13,H3⟩|⟨c13,H3⟩;rotate_left
      .skip;refine cf (f2 hh (zAb c13)) ?_;refine xk ?_;cases H3;exact ce hh ⟨_,rfl,kq hh,rfl⟩
      refine ct (f2 hh (zAa c13)) ?_;refine sk ?_;apply dv;apply ey;obtain ⟨g14,H3⟩:=isg H3;apply dv;refine rk [3,5,8,9,10] [] (f3 hh c7 (f3 c11 (zaf g12) (zaf g14))) fun h hh=>?_;obtain ⟨cr,e15,H3⟩:=zad H3;apply dv;refine rkp [3,5,8,9,10,11] [] [.bool cr] (f3 hh c7 c11) ?_ ?_
      .exact ⟨fc (f6 (ztx ax hx k ((gx (gx r.outs k_) i).mod) cr e15 ) (by first|rfl|simp only [c7,c11])),trivial⟩
      clear hh h;intro h hh;rcases isp H3 with ⟨c16,H3⟩|⟨c16,H3⟩;rotate_left
      .skip;rcases isp H3 with ⟨c17,H3⟩|⟨c17,H3⟩;rotate_left
       .skip;apply dv;refine rk [3,5,8,9,102] [] (f3 hh (zAb c16) (f3 (zAb c17) c7 c11)) fun h hh=>?_;rcases isb H3 with ⟨c18,H3⟩|⟨c18,H3⟩;rotate_left
        .skip;refine ct (f2 hh c18) ?_;apply dv;refine rk [6] [] (f3 hh c7 (f2 c11 c18)) fun h hh=>?_;cases H3;obtain rfl:=sinm H2;obtain rfl:=sinm H1;obtain rfl:=sinl H;exact rt hh
        refine cf (f2 hh c18) ?_;refine sk ?_;refine rk [3,5,8,9] [] (f3 hh c7 (f2 c11 c18)) fun h hh=>?_;exact rd m hh ⟨(dx.wrap (i+1)),H3,kq hh,rfl⟩
       apply dv;refine rk [3,5,8,9,102] [] (f3 hh (zAb c16) (f3 (zAa c17) c7 c11)) fun h hh=>?_;refine ct hh ?_;apply dv;refine rk [6] [] (f3 hh c7 c11) fun h hh=>?_;cases H3;obtain rfl:=sinm H2;obtain rfl:=sinm H1;obtain rfl:=sinl H;exact rt hh
      apply dv;refine rk [3,5,8,9,102] [] (f3 hh (zAa c16) (f2 c7 c11)) fun h hh=>?_;refine ct hh ?_;apply dv;refine rk [6] [] (f3 hh c7 c11) fun h hh=>?_;cases H3;obtain rfl:=sinm H2;obtain rfl:=sinm H1;obtain rfl:=sinl H;exact rt hh
     clear hh h;rintro h bs ⟨s_5,rfl,hh,rfl⟩;replace H2:=sinr H2;cases H2;exact ce hh ⟨_,rfl,kq hh,rfl⟩
    refine ct (f2 hh c11) ?_;apply dv;refine rk [6] [] (f3 hh c7 c11) fun h hh=>?_;cases H2;obtain rfl:=sinm H1;obtain rfl:=sinl H;exact rt hh
   clear hh h;rintro h bs ⟨s_3,rfl,hh,rfl⟩;replace H1:=sinr H1;refine rk [3,5,8] [] (f2 hh c7) fun h hh=>?_;exact rd m hh ⟨(dx.wrap (k_+1)),H1,kq hh,rfl⟩
  clear hh h;rintro h bs ⟨s_2,rfl,hh,rfl⟩;replace H:=sinr H;apply dv;refine rk [6] [] (f2 hh c7) fun h hh=>?_;cases H;exact rt hh
 refine ct (f2 hh c7) ?_;apply dv;refine rk [6] [] (f2 hh c7) fun h hh=>?_;cases H;exact rt hh
def zdi (k:Nat) (n:Net) (steps:Int) (t:List Rule):Nat->Int->Option ((Int×Int) ⊕ Unit)
 |0,_=>none
 |m+1,k_=>(if k_<(t.length:Int) then (if 0<=k_/\k_<(t.length:Int) then ((zjz k n steps (gx t k_)).bind fun cw=>(if cw=true then (if 0<k_ then (if (0:Int)<=(dx.wrap (k_ - 1))/\(dx.wrap (k_ - 1))<(t.length:Int) then (if ((gx t (dx.wrap (k_ - 1))).prio)<=((gx t k_).prio) then some (.inl (k_,1)) else zdi k n steps t m (dx.wrap (k_+1))) else none) else zdi k n steps t m (dx.wrap (k_+1))) else some (.inl (k_,1)))) else none) else some (.inr ()))
def zli (k:Nat) (n:Net) (steps:Int) (t:List Rule):Option (Int×Int):=(((if steps<0 then some true else some (decide (1000<steps))):Option Bool).bind fun s_=>(if s_=true then some (0,1) else (if 4000<(t.length:Int) then some (0,2) else ((zdi k n steps t k 0:Option ((Int×Int) ⊕ Unit)).bind fun o=>il (fun r=>some r) (fun s_2=>some (0,0)) o))))
theorem z1c (ax:Axs) (hx:NoAx ax) (k:Nat) (n:Net) (steps:Int) (t:List Rule) (v:Int×Int) (H:zli k n steps t=some v):Pure Tryz.prog (EE ax) [] 43 [eNet n,.int .i64 steps,zag t] (tupT [.int .i64 v.1,.int .i64 v.2]):=by
 rw [zli] at H;refine enN [.tmp 6,.tmp 7] 53 [0,1,2] (hx.no _ (by decide)) (fn43 ax) ?_;intro h hh;apply dv;refine rk [1,2,3] [] hh fun h hh=>?_;obtain ⟨s_,H1,H⟩:=zad H;repeat apply dv
 refine cu [1,2,3,15] 1 (fun h bs=>(h 1=.int .i64 steps/\h 2=zag t/\h 3=.ptr 0 0 3/\h 15=.bool s_)/\bs=[.cells true 3 [zau n.nodes,zav n.links,zaw n.edges]]) ?_ ?_
 .skip;rcases isp H1 with ⟨c1,H1⟩|⟨c1,H1⟩;rotate_left
  .skip;refine rk [1,2,3,15] [] (f2 hh (zAb c1)) fun h hh=>?_;cases H1;exact ce hh ⟨kq hh,rfl⟩
  refine rk [1,2,3,15] [] (f2 hh (zAa c1)) fun h hh=>?_;cases H1;exact ce hh ⟨kq hh,rfl⟩
 clear hh h;rintro h bs ⟨hh,rfl⟩;rcases isb H with ⟨c2,H⟩|⟨c2,H⟩;rotate_left
 .skip;refine cf (f2 hh c2) ?_;refine sk ?_;repeat apply dv
  refine rk [1,2,3,18] [] (f2 hh c2) fun h hh=>?_;rcases isp H with ⟨c3,H⟩|⟨c3,H⟩;rotate_left
  .skip;refine cf (f2 hh (zAb c3)) ?_;refine sk ?_;repeat apply dv
   refine rk [1,2,3,8] [] (f2 hh c2) fun h hh=>?_;obtain ⟨o,H1,H⟩:=zad H;refine cu [] 1 (fun h bs=>∃ s_2:Unit,o=.inr s_2/\(True)/\bs=[.cells true 3 [zau n.nodes,zav n.links,zaw n.edges]]) ?_ ?_
   .skip;apply ey;refine gt [1,2,3,8] (fun m h bs=>∃ (k_:Int),zdi k n steps t m k_=some o/\(h 1=.int .i64 steps/\h 2=zag t/\h 3=.ptr 0 0 3/\h 8=.int .i64 k_)/\bs=[.cells true 3 [zau n.nodes,zav n.links,zaw n.edges]]) ?_ k _ _ ?_;rotate_left
    .exact ⟨0,H1,kq hh,rfl⟩
    clear hh h H1;rintro m h bs ⟨k_,H1,hh,rfl⟩;rcases m with _|m
    .rw [zdi] at H1;cases H1
    rw [zdi] at H1;repeat apply dv
    refine rk [1,2,3,8,22] [] (f2 hh c2) fun h hh=>?_;rcases isp H1 with ⟨c4,H1⟩|⟨c4,H1⟩;rotate_left
    .skip;refine cf (f2 hh (zAb c4)) ?_;refine xk ?_;cases H1;exact ce hh ⟨_,rfl,kq hh,rfl⟩
    refine ct (f2 hh (zAa c4)) ?_;refine sk ?_;apply dv;apply ey;obtain ⟨g5,H1⟩:=isg H1;obtain ⟨cw,e6,H1⟩:=zad H1;apply dv;refine dk 6 [1,2,3,8,9] [] [] [(.bool cw,stL [.cells true 3 [zau n.nodes,zav n.links,zaw n.edges]])] (f3 hh c2 (zaf g5)) trivial ?_ ?_
    .exact ⟨fc (f6 (zxt ax hx k n steps (gx t k_) cw e6 ) (by first|rfl|simp only [c2])),trivial⟩
    clear hh h;intro h hh;rcases isb H1 with ⟨c7,H1⟩|⟨c7,H1⟩;rotate_left
    .skip;apply dv;refine dk 17 [1,2,3,8,51] [] [] [] (f3 hh c7 c2) trivial trivial fun h hh=>?_;refine ct hh ?_;apply dv;refine rk [6,7] [] (f3 hh c2 c7) fun h hh=>?_;cases H1;obtain rfl:=sinl H;exact rt hh
    rcases isp H1 with ⟨c8,H1⟩|⟨c8,H1⟩;rotate_left
    .skip;apply dv;refine dk 17 [1,2,3,8,51] [] [] [] (f3 hh c7 (f2 (zAb c8) c2)) trivial trivial fun h hh=>?_;refine cf hh ?_;refine sk ?_;refine rk [1,2,3,8] [] (f3 hh c2 c7) fun h hh=>?_;exact rd m hh ⟨(dx.wrap (k_+1)),H1,kq hh,rfl⟩
    obtain ⟨g9,H1⟩:=isg H1;apply dv;refine dk 17 [1,2,3,8,51] [] [] [] (f3 hh c7 (f3 (zAa c8) c2 (f2 (zaf g5) (zaf g9)))) trivial trivial fun h hh=>?_;rcases isp H1 with ⟨c10,H1⟩|⟨c10,H1⟩;rotate_left
    .skip;refine cf (f2 hh (zAb c10)) ?_;refine sk ?_;refine rk [1,2,3,8] [] (f3 hh c2 c7) fun h hh=>?_;exact rd m hh ⟨(dx.wrap (k_+1)),H1,kq hh,rfl⟩
    refine ct (f2 hh (zAa c10)) ?_;apply dv;refine rk [6,7] [] (f3 hh c2 c7) fun h hh=>?_;cases H1;obtain rfl:=sinl H;exact rt hh
   clear hh h;rintro h bs ⟨s_2,rfl,hh,rfl⟩;replace H:=sinr H;apply dv;refine rk [6,7] [] (f2 hh c2) fun h hh=>?_;cases H;exact rt hh
  refine ct (f2 hh (zAa c3)) ?_;apply dv;refine rk [6,7] [] (f2 hh c2) fun h hh=>?_;cases H;exact rt hh
 refine ct (f2 hh c2) ?_;apply dv;refine rk [6,7] [] (f2 hh c2) fun h hh=>?_;cases H;exact rt hh
def za3 (k:Nat) (s1:List Rule) (s2:List Rule) (eq:Rule->Rule->Option Bool):Nat->Int->Option (Bool ⊕ Unit)
 |0,_=>none
 |m+1,i=>(if i<(s1.length:Int) then (if 0<=i/\i<(s1.length:Int) then (if 0<=i/\i<(s2.length:Int) then ((eq (⟨(gx s1 i).prio,((gx s1 i).mat),(gx s1 i).step,(gx s1 i).outs⟩:Rule) (⟨(gx s2 i).prio,((gx s2 i).mat),(gx s2 i).step,(gx s2 i).outs⟩:Rule)).bind fun r=>(if r=true then za3 k s1 s2 eq m (dx.wrap (i+1)) else some (.inl false))) else none) else none) else some (.inr ()))
def zdc (k:Nat) (s1:List Rule) (s2:List Rule) (eq:Rule->Rule->Option Bool):Option Bool:=(if (s1.length:Int)≠(s2.length:Int) then some false else ((za3 k s1 s2 eq k 0:Option (Bool ⊕ Unit)).bind fun o=>il (fun r=>some r) (fun s_=>some true) o))
theorem zk0 (ax:Axs) (hx:NoAx ax) (k:Nat) (s1:List Rule) (s2:List Rule) (eq:Rule->Rule->Option Bool) (v:Bool) (H:zdc k s1 s2 eq=some v) (eq_f:Nat) (eq_c:List T) (eq_i:ir 0 eq_c=true) (eq_h:∀ (y0:Rule) (y1:Rule) (w:Bool),eq y0 y1=some w->Pure Tryz.prog (EE ax) [] eq_f ([]++[zai y0,zai y1]++eq_c) (.bool w)):Pure Tryz.prog (EE ax) [] 86 [zag s1,zag s2,.fn eq_f [] eq_c] (.bool v):=by
 rw [zdc] at H;refine en (ha:=by simp only [zbw,zct,idsA,idsB,idsC,eq_i,ef]) [.tmp 6] 32 [0,1,2] (hx.no _ (by decide)) (fn86 ax) ?_;intro h hh;apply dv;refine rk [0,1,2] [] hh fun h hh=>?_;repeat apply dv
 refine rk [0,1,2,14] [] hh fun h hh=>?_;rcases isp H with ⟨c1,H⟩|⟨c1,H⟩;rotate_left
 .skip;refine cf (f2 hh (zAb c1)) ?_;refine sk ?_;repeat apply dv
  refine rk [1,2,15,16,17] [] hh fun h hh=>?_;obtain ⟨o,H1,H⟩:=zad H;refine cu [] 0 (fun h bs=>∃ s_:Unit,o=.inr s_/\(True)/\bs=[]) ?_ ?_
  .skip;apply ey;refine gt [1,2,15,16,17] (fun m h bs=>∃ (i:Int),za3 k s1 s2 eq m i=some o/\(h 1=zag s2/\h 2=.fn eq_f [] eq_c/\h 15=zag s1/\h 16=.int .i64 (s1.length:Int)/\h 17=.int .i64 i)/\bs=[]) ?_ k _ _ ?_;rotate_left
   .exact ⟨0,H1,kq hh,rfl⟩
   clear hh h H1;rintro m h bs ⟨i,H1,hh,rfl⟩;rcases m with _|m
   .rw [za3] at H1;cases H1
   rw [za3] at H1;apply dv;refine rk [1,2,15,16,17,18] [] hh fun h hh=>?_;rcases isp H1 with ⟨c2,H1⟩|⟨c2,H1⟩;rotate_left
   .skip;apply dv;refine cf (f2 hh (zAb c2)) ?_;refine xk ?_;cases H1;exact ce (f2 hh ((fun m=>zch (ft m) eq_i))) ⟨_,rfl,kq hh,rfl⟩
   apply dv;refine ct (f2 hh (zAa c2)) ?_;refine sk ?_;apply dv;apply ey;obtain ⟨g3,H1⟩:=isg H1;apply dv;refine rk [1,2,7,8,15,16,17] [] (f2 hh (zaf g3)) fun h hh=>?_;obtain ⟨g4,H1⟩:=isg H1;apply dv;refine rk [1,2,8,9,15,16,17] [] (f2 hh (zaf g4)) fun h hh=>?_;obtain ⟨r,e5,H1⟩:=zad H1;apply dv;refine rkp [1,2,15,16,17,30] [] [.bool r] hh ?_ ?_
   .exact ⟨fc ((eq_h (⟨(gx s1 i).prio,((gx s1 i).mat),(gx s1 i).step,(gx s1 i).outs⟩:Rule) (⟨(gx s2 i).prio,((gx s2 i).mat),(gx s2 i).step,(gx s2 i).outs⟩:Rule) r e5).call _),trivial⟩
   clear hh h;intro h hh;rcases isb H1 with ⟨c6,H1⟩|⟨c6,H1⟩;rotate_left
   .skip;refine ct (f2 hh c6) ?_;apply dv;refine rk [6] [] (f2 hh c6) fun h hh=>?_;cases H1;obtain rfl:=sinl H;exact rt hh
   refine cf (f2 hh c6) ?_;refine sk ?_;refine rk [1,2,15,16,17] [] (f2 hh c6) fun h hh=>?_;exact rd m (f2 hh ((fun m=>zch (ft m) eq_i))) ⟨(dx.wrap (i+1)),H1,kq hh,rfl⟩
  clear hh h;rintro h bs ⟨s_,rfl,hh,rfl⟩;replace H:=sinr H;apply dv;refine rk [6] [] hh fun h hh=>?_;cases H;exact rt hh
 refine ct (f2 hh (zAa c1)) ?_;apply dv;refine rk [6] [] hh fun h hh=>?_;cases H;exact rt hh
def za4 (k:Nat) (s1:List (List Alt)) (s2:List (List Alt)) (eq:(List Alt)->(List Alt)->Option Bool):Nat->Int->Option (Bool ⊕ Unit)
 |0,_=>none
 |m+1,i=>(if i<(s1.length:Int) then (if 0<=i/\i<(s1.length:Int) then (if 0<=i/\i<(s2.length:Int) then ((eq (gx s1 i) (gx s2 i)).bind fun r=>(if r=true then za4 k s1 s2 eq m (dx.wrap (i+1)) else some (.inl false))) else none) else none) else some (.inr ()))
def zdd (k:Nat) (s1:List (List Alt)) (s2:List (List Alt)) (eq:(List Alt)->(List Alt)->Option Bool):Option Bool:=(if (s1.length:Int)≠(s2.length:Int) then some false else ((za4 k s1 s2 eq k 0:Option (Bool ⊕ Unit)).bind fun o=>il (fun r=>some r) (fun s_=>some true) o))
theorem zk1 (ax:Axs) (hx:NoAx ax) (k:Nat) (s1:List (List Alt)) (s2:List (List Alt)) (eq:(List Alt)->(List Alt)->Option Bool) (v:Bool) (H:zdd k s1 s2 eq=some v) (eq_f:Nat) (eq_c:List T) (eq_i:ir 0 eq_c=true) (eq_h:∀ (y0:List Alt) (y1:List Alt) (w:Bool),eq y0 y1=some w->Pure Tryz.prog (EE ax) [] eq_f ([]++[lAlt y0,lAlt y1]++eq_c) (.bool w)):Pure Tryz.prog (EE ax) [] 128 [zbb s1,zbb s2,.fn eq_f [] eq_c] (.bool v):=by
 rw [zdd] at H;refine en (ha:=by simp only [zbw,zct,idsA,idsB,idsC,eq_i,ef]) [.tmp 6] 32 [0,1,2] (hx.no _ (by decide)) (fn128 ax) ?_;intro h hh;apply dv;refine rk [0,1,2] [] hh fun h hh=>?_;repeat apply dv
 refine rk [0,1,2,14] [] hh fun h hh=>?_;rcases isp H with ⟨c1,H⟩|⟨c1,H⟩;rotate_left
 .skip;refine cf (f2 hh (zAb c1)) ?_;refine sk ?_;repeat apply dv
  refine rk [1,2,15,16,17] [] hh fun h hh=>?_;obtain ⟨o,H1,H⟩:=zad H;refine cu [] 0 (fun h bs=>∃ s_:Unit,o=.inr s_/\(True)/\bs=[]) ?_ ?_
  .skip;apply ey;refine gt [1,2,15,16,17] (fun m h bs=>∃ (i:Int),za4 k s1 s2 eq m i=some o/\(h 1=zbb s2/\h 2=.fn eq_f [] eq_c/\h 15=zbb s1/\h 16=.int .i64 (s1.length:Int)/\h 17=.int .i64 i)/\bs=[]) ?_ k _ _ ?_;rotate_left
   .exact ⟨0,H1,kq hh,rfl⟩
   clear hh h H1;rintro m h bs ⟨i,H1,hh,rfl⟩;rcases m with _|m
   .rw [za4] at H1;cases H1
   rw [za4] at H1;apply dv;refine rk [1,2,15,16,17,18] [] hh fun h hh=>?_;rcases isp H1 with ⟨c2,H1⟩|⟨c2,H1⟩;rotate_left
   .skip;apply dv;refine cf (f2 hh (zAb c2)) ?_;refine xk ?_;cases H1;exact ce (f2 hh ((fun m=>zch (ft m) eq_i))) ⟨_,rfl,kq hh,rfl⟩
   apply dv;refine ct (f2 hh (zAa c2)) ?_;refine sk ?_;apply dv;apply ey;obtain ⟨g3,H1⟩:=isg H1;apply dv;refine rk [1,2,7,8,15,16,17] [] (f2 hh (zaf g3)) fun h hh=>?_;obtain ⟨g4,H1⟩:=isg H1;apply dv;refine rk [1,2,8,9,15,16,17] [] (f2 hh (zaf g4)) fun h hh=>?_;obtain ⟨r,e5,H1⟩:=zad H1;apply dv;refine rkp [1,2,15,16,17,30] [] [.bool r] hh ?_ ?_
   .exact ⟨fc ((eq_h (gx s1 i) (gx s2 i) r e5).call _),trivial⟩
   clear hh h;intro h hh;rcases isb H1 with ⟨c6,H1⟩|⟨c6,H1⟩;rotate_left
   .skip;refine ct (f2 hh c6) ?_;apply dv;refine rk [6] [] (f2 hh c6) fun h hh=>?_;cases H1;obtain rfl:=sinl H;exact rt hh
   refine cf (f2 hh c6) ?_;refine sk ?_;refine rk [1,2,15,16,17] [] (f2 hh c6) fun h hh=>?_;exact rd m (f2 hh ((fun m=>zch (ft m) eq_i))) ⟨(dx.wrap (i+1)),H1,kq hh,rfl⟩
  clear hh h;rintro h bs ⟨s_,rfl,hh,rfl⟩;replace H:=sinr H;apply dv;refine rk [6] [] hh fun h hh=>?_;cases H;exact rt hh
 refine ct (f2 hh (zAa c1)) ?_;apply dv;refine rk [6] [] hh fun h hh=>?_;cases H;exact rt hh
def zbx (k:Nat) (s1:List Alt) (s2:List Alt):Nat->Int->Option (Bool ⊕ Unit)
 |0,_=>none
 |m+1,i=>(if i<(s1.length:Int) then (if 0<=i/\i<(s1.length:Int) then (if 0<=i/\i<(s2.length:Int) then (if (gx s1 i)=(gx s2 i) then zbx k s1 s2 m (dx.wrap (i+1)) else some (.inl false)) else none) else none) else some (.inr ()))
def ze6 (k:Nat) (s1:List Alt) (s2:List Alt):Option Bool:=(if (s1.length:Int)≠(s2.length:Int) then some false else ((zbx k s1 s2 k 0:Option (Bool ⊕ Unit)).bind fun o=>il (fun r=>some r) (fun s_=>some true) o))
theorem zo0 (ax:Axs) (hx:NoAx ax) (k:Nat) (s1:List Alt) (s2:List Alt) (v:Bool) (H:ze6 k s1 s2=some v):Pure Tryz.prog (EE ax) [] 130 [lAlt s1,lAlt s2] (.bool v):=by
 rw [ze6] at H;refine en [.tmp 4] 26 [0,1] (hx.no _ (by decide)) (fn130 ax) ?_;intro h hh;apply dv;refine rk [0,1] [] hh fun h hh=>?_;repeat apply dv
 refine rk [0,1,10] [] hh fun h hh=>?_;rcases isp H with ⟨c1,H⟩|⟨c1,H⟩;rotate_left
 .skip;refine cf (f2 hh (zAb c1)) ?_;refine sk ?_;repeat apply dv
  refine rk [0,1,12,13] [] hh fun h hh=>?_;obtain ⟨o,H1,H⟩:=zad H;refine cu [] 0 (fun h bs=>∃ s_:Unit,o=.inr s_/\(True)/\bs=[]) ?_ ?_
  .skip;apply ey;refine gt [0,1,12,13] (fun m h bs=>∃ (i:Int),zbx k s1 s2 m i=some o/\(h 0=lAlt s1/\h 1=lAlt s2/\h 12=.int .i64 (s1.length:Int)/\h 13=.int .i64 i)/\bs=[]) ?_ k _ _ ?_;rotate_left
   .exact ⟨0,H1,kq hh,rfl⟩
   clear hh h H1;rintro m h bs ⟨i,H1,hh,rfl⟩;rcases m with _|m
   .rw [zbx] at H1;cases H1
   rw [zbx] at H1;apply dv;refine rk [0,1,12,13,14] [] hh fun h hh=>?_;rcases isp H1 with ⟨c2,H1⟩|⟨c2,H1⟩;rotate_left
   .skip;apply dv;refine cf (f2 hh (zAb c2)) ?_;refine xk ?_;cases H1;exact ce hh ⟨_,rfl,kq hh,rfl⟩
   apply dv;refine ct (f2 hh (zAa c2)) ?_;refine sk ?_;apply dv;apply ey;apply dv;refine rk [0,1,5,12,13] [] hh fun h hh=>?_;obtain ⟨g3,H1⟩:=isg H1;obtain ⟨g4,H1⟩:=isg H1;apply dv;refine dk 8 [0,1,12,13,24] [] [] [] (f3 hh (zaf g3) (f2 (zaf g4) ((ysx ax (gx s1 i) (gx s2 i)).2))) trivial trivial fun h hh=>?_;rcases isp H1 with ⟨c5,H1⟩|⟨c5,H1⟩;rotate_left
   .skip;refine ct (f2 hh (zAb c5)) ?_;apply dv;refine rk [4] [] hh fun h hh=>?_;cases H1;obtain rfl:=sinl H;exact rt hh
   refine cf (f2 hh (zAa c5)) ?_;refine sk ?_;refine rk [0,1,12,13] [] hh fun h hh=>?_;exact rd m hh ⟨(dx.wrap (i+1)),H1,kq hh,rfl⟩
  clear hh h;rintro h bs ⟨s_,rfl,hh,rfl⟩;replace H:=sinr H;apply dv;refine rk [4] [] hh fun h hh=>?_;cases H;exact rt hh
 refine ct (f2 hh (zAa c1)) ?_;apply dv;refine rk [4] [] hh fun h hh=>?_;cases H;exact rt hh
def zg5 (k:Nat) (x:List Alt) (y:List Alt):Option Bool:=((ze6 k x y).bind fun cx=>some cx)
theorem zlb (ax:Axs) (hx:NoAx ax) (k:Nat) (x:List Alt) (y:List Alt) (v:Bool) (H:zg5 k x y=some v):Pure Tryz.prog (EE ax) [] 129 [lAlt x,lAlt y] (.bool v):=by
 rw [zg5] at H;refine en [.tmp 4] 8 [0,1] (hx.no _ (by decide)) (fn129 ax) ?_;intro h hh;apply dv;refine rk [0,1] [] hh fun h hh=>?_;obtain ⟨cx,e1,H⟩:=zad H;apply dv;refine rkp [4] [] [.bool cx] hh ?_ ?_
 .exact ⟨fc ((zo0 ax hx k x y cx e1 ).call _),trivial⟩
 clear hh h;intro h hh;cases H;exact rt hh
def ziq (k:Nat) (a:Rule) (b:Rule):Option Bool:=(if a.step=b.step then ((zdd k a.outs b.outs (fun y y2=>zg5 k y y2)).bind fun cy=>some cy) else some false)
theorem zuy (ax:Axs) (hx:NoAx ax) (k:Nat) (a:Rule) (b:Rule) (v:Bool) (H:ziq k a b=some v):Pure Tryz.prog (EE ax) [] 116 [zai a,zai b] (.bool v):=by
 rw [ziq] at H;refine en [.tmp 4] 17 [0,1] (hx.no _ (by decide)) (fn116 ax) ?_;intro h hh;apply dv;refine rk [2,3] [] hh fun h hh=>?_;rcases isp H with ⟨c1,H⟩|⟨c1,H⟩;rotate_left
 .skip;apply dv;refine rk [4] [] (f2 hh (zAb c1)) fun h hh=>?_;cases H;exact rt hh
 obtain ⟨cy,e2,H⟩:=zad H;apply dv;refine rkp [4] [] [.bool cy] (f2 hh (zAa c1)) ?_ ?_
 .exact ⟨fc ((zk1 ax hx k a.outs b.outs (fun y y2=>zg5 k y y2) cy e2 129 [] (by simp only [zbw,zct,idsA,idsB,idsC,ef]) (fun y y2 w hw=>by first|exact zlb ax hx k y y2 w hw|exact (zlb ax hx k y y2 w hw))).call _),trivial⟩
 clear hh h;intro h hh;cases H;exact rt hh
def zd8 (k:Nat) (a:Rule) (b:Rule):Option Bool:=(if a.prio=b.prio then (if a.mat=b.mat then ((ziq k a b).bind fun av=>some av) else some false) else some false)
theorem zhx (ax:Axs) (hx:NoAx ax) (k:Nat) (a:Rule) (b:Rule) (v:Bool) (H:zd8 k a b=some v):Pure Tryz.prog (EE ax) [] 87 [zai a,zai b] (.bool v):=by
 rw [zd8] at H;refine en [.tmp 4] 22 [0,1] (hx.no _ (by decide)) (fn87 ax) ?_;intro h hh;apply dv;refine rk [2,3] [] hh fun h hh=>?_;rcases isp H with ⟨c1,H⟩|⟨c1,H⟩;rotate_left
 .skip;apply dv;refine rk [4] [] (f2 hh (zAb c1)) fun h hh=>?_;cases H;exact rt hh
 rcases isp H with ⟨c2,H⟩|⟨c2,H⟩;rotate_left
 .skip;apply dv;refine rk [4] [] (f3 hh (zAa c1) (f2 (zAb c2) ((ylu ax a.mat b.mat).1))) fun h hh=>?_;cases H;exact rt hh
 obtain ⟨av,e3,H⟩:=zad H;apply dv;refine rkp [4] [] [.bool av] (f3 hh (zAa c1) (f2 (zAa c2) ((ylu ax a.mat b.mat).1))) ?_ ?_
 .exact ⟨fc ((zuy ax hx k a b av e3 ).call _),trivial⟩
 clear hh h;intro h hh;cases H;exact rt hh
def zhg (k:Nat) (t:List Rule) (u:List Rule):Option Bool:=((zdc k t u (fun y y2=>zd8 k y y2)).bind fun am=>some am)
theorem zil (ax:Axs) (hx:NoAx ax) (k:Nat) (t:List Rule) (u:List Rule) (v:Bool) (H:zhg k t u=some v):Pure Tryz.prog (EE ax) [] 47 [zag t,zag u] (.bool v):=by
 rw [zhg] at H;refine en [.tmp 4] 8 [0,1] (hx.no _ (by decide)) (fn47 ax) ?_;intro h hh;apply dv;refine rk [0,1] [] hh fun h hh=>?_;obtain ⟨am,e1,H⟩:=zad H;apply dv;refine rkp [4] [] [.bool am] hh ?_ ?_
 .exact ⟨fc ((zk0 ax hx k t u (fun y y2=>zd8 k y y2) am e1 87 [] (by simp only [zbw,zct,idsA,idsB,idsC,ef]) (fun y y2 w hw=>by first|exact zhx ax hx k y y2 w hw|exact (zhx ax hx k y y2 w hw))).call _),trivial⟩
 clear hh h;intro h hh;cases H;exact rt hh
def zc2 (k:Nat) (a:Rule) (b:Rule) (k_:Int):Nat->Int->Option (Bool ⊕ Unit)
 |0,_=>none
 |m+1,i=>(if i<((gx a.outs k_).length:Int) then (if 0<=i/\i<((gx a.outs k_).length:Int) then (if 0<=i/\i<((gx b.outs k_).length:Int) then (if (gx (gx a.outs k_) i)=(gx (gx b.outs k_) i) then zc2 k a b k_ m (dx.wrap (i+1)) else some (.inl false)) else none) else none) else some (.inr ()))
def zc3 (k:Nat) (a:Rule) (b:Rule):Nat->Int->Option (Bool ⊕ Unit)
 |0,_=>none
 |m+1,k_=>(if k_<(a.outs.length:Int) then (((if 0<=k_/\k_<(a.outs.length:Int) then (if 0<=k_/\k_<(b.outs.length:Int) then (if ((gx a.outs k_).length:Int)≠((gx b.outs k_).length:Int) then some (.inl false) else ((zc2 k a b k_ k 0:Option (Bool ⊕ Unit)).bind fun o=>il (fun r=>some (.inl r)) (fun s_3=>some (.inr ())) o)) else none) else none):Option (Bool ⊕ Unit)).bind fun o2=>il (fun r=>some (.inl r)) (fun s_2=>zc3 k a b m (dx.wrap (k_+1))) o2) else some (.inr ()))
def zhz (k:Nat) (a:Rule) (b:Rule):Option Bool:=(if (a.outs.length:Int)≠(b.outs.length:Int) then some false else ((zc3 k a b k 0:Option (Bool ⊕ Unit)).bind fun o3=>il (fun r=>some r) (fun s_=>some true) o3))
theorem ztw (ax:Axs) (hx:NoAx ax) (k:Nat) (a:Rule) (b:Rule) (v:Bool) (H:zhz k a b=some v):Pure Tryz.prog (EE ax) [] 131 [zai a,zai b] (.bool v):=by
 rw [zhz] at H;refine en [.tmp 4] 61 [0,1] (hx.no _ (by decide)) (fn131 ax) ?_;intro h hh;apply dv;refine rk [2,3] [] hh fun h hh=>?_;repeat apply dv
 refine rk [2,3,13] [] hh fun h hh=>?_;rcases isp H with ⟨c1,H⟩|⟨c1,H⟩;rotate_left
 .skip;refine cf (f2 hh (zAb c1)) ?_;refine sk ?_;repeat apply dv
  refine rk [2,3,5] [] hh fun h hh=>?_;obtain ⟨o3,H1,H⟩:=zad H;refine cu [] 2 (fun h bs=>∃ s_:Unit,o3=.inr s_/\(True)/\bs=[.cells true 23 (dy .i64 a.prio :: (a.mat.mask.l.map (dy .i64)++(a.mat.bits.l.map (dy .i64)++[dy .i64 a.step,zbb a.outs]))),.cells true 23 (dy .i64 b.prio :: (b.mat.mask.l.map (dy .i64)++(b.mat.bits.l.map (dy .i64)++[dy .i64 b.step,zbb b.outs])))]) ?_ ?_
  .skip;apply ey;refine gt [2,3,5] (fun m h bs=>∃ (k_:Int),zc3 k a b m k_=some o3/\(h 2=.ptr 0 0 23/\h 3=.ptr 1 0 23/\h 5=.int .i64 k_)/\bs=[.cells true 23 (dy .i64 a.prio :: (a.mat.mask.l.map (dy .i64)++(a.mat.bits.l.map (dy .i64)++[dy .i64 a.step,zbb a.outs]))),.cells true 23 (dy .i64 b.prio :: (b.mat.mask.l.map (dy .i64)++(b.mat.bits.l.map (dy .i64)++[dy .i64 b.step,zbb b.outs])))]) ?_ k _ _ ?_;rotate_left
   .exact ⟨0,H1,kq hh,rfl⟩
   clear hh h H1;rintro m h bs ⟨k_,H1,hh,rfl⟩;rcases m with _|m
   .rw [zc3] at H1;cases H1
   rw [zc3] at H1;repeat apply dv
   refine rk [2,3,5,18] [] hh fun h hh=>?_;rcases isp H1 with ⟨c2,H1⟩|⟨c2,H1⟩;rotate_left
   .skip;refine cf (f2 hh (zAb c2)) ?_;refine xk ?_;cases H1;exact ce hh ⟨_,rfl,kq hh,rfl⟩
   refine ct (f2 hh (zAa c2)) ?_;refine sk ?_;obtain ⟨o2,H2,H1⟩:=zad H1;apply dv;refine cu [2,3,5] 2 (fun h bs=>∃ s_2:Unit,o2=.inr s_2/\(h 2=.ptr 0 0 23/\h 3=.ptr 1 0 23/\h 5=.int .i64 k_)/\bs=[.cells true 23 (dy .i64 a.prio :: (a.mat.mask.l.map (dy .i64)++(a.mat.bits.l.map (dy .i64)++[dy .i64 a.step,zbb a.outs]))),.cells true 23 (dy .i64 b.prio :: (b.mat.mask.l.map (dy .i64)++(b.mat.bits.l.map (dy .i64)++[dy .i64 b.step,zbb b.outs])))]) ?_ ?_
   .skip;apply ey;obtain ⟨g3,H2⟩:=isg H2;obtain ⟨g4,H2⟩:=isg H2;repeat apply dv
    refine dk 12 [2,3,5,33] [] [] [] (f3 hh (zaf g3) (zaf g4)) trivial trivial fun h hh=>?_;rcases isp H2 with ⟨c5,H2⟩|⟨c5,H2⟩;rotate_left
    .skip;refine cf (f2 hh (zAb c5)) ?_;refine sk ?_;apply dv;refine rk [2,3,5,6] [] hh fun h hh=>?_;obtain ⟨o,H3,H2⟩:=zad H2;refine cu [2,3,5] 2 (fun h bs=>∃ s_3:Unit,o=.inr s_3/\(h 2=.ptr 0 0 23/\h 3=.ptr 1 0 23/\h 5=.int .i64 k_)/\bs=[.cells true 23 (dy .i64 a.prio :: (a.mat.mask.l.map (dy .i64)++(a.mat.bits.l.map (dy .i64)++[dy .i64 a.step,zbb a.outs]))),.cells true 23 (dy .i64 b.prio :: (b.mat.mask.l.map (dy .i64)++(b.mat.bits.l.map (dy .i64)++[dy .i64 b.step,zbb b.outs])))]) ?_ ?_
     .skip;apply ey;refine gt [2,3,5,6] (fun m h bs=>∃ (i:Int),zc2 k a b k_ m i=some o/\(h 2=.ptr 0 0 23/\h 3=.ptr 1 0 23/\h 5=.int .i64 k_/\h 6=.int .i64 i)/\bs=[.cells true 23 (dy .i64 a.prio :: (a.mat.mask.l.map (dy .i64)++(a.mat.bits.l.map (dy .i64)++[dy .i64 a.step,zbb a.outs]))),.cells true 23 (dy .i64 b.prio :: (b.mat.mask.l.map (dy .i64)++(b.mat.bits.l.map (dy .i64)++[dy .i64 b.step,zbb b.outs])))]) ?_ k _ _ ?_;rotate_left
      .exact ⟨0,H3,kq hh,rfl⟩
      clear hh h H3;rintro m h bs ⟨i,H3,hh,rfl⟩;rcases m with _|m
      .rw [zc2] at H3;cases H3
      rw [zc2] at H3;repeat apply dv
      refine rk [2,3,5,6,41] [] (f2 hh (zaf g3)) fun h hh=>?_;rcases isp H3 with ⟨c6,H3⟩|⟨c6,H3⟩;rotate_left
      .skip;refine cf (f2 hh (zAb c6)) ?_;refine xk ?_;cases H3;exact ce hh ⟨_,rfl,kq hh,rfl⟩
      refine ct (f2 hh (zAa c6)) ?_;refine sk ?_;apply dv;apply ey;obtain ⟨g7,H3⟩:=isg H3;obtain ⟨g8,H3⟩:=isg H3;apply dv;refine dk 16 [2,3,5,6,60] [] [] [] (f3 hh (zaf g3) (f3 (zaf g7) (zaf g4) (f2 (zaf g8) ((ysx ax (gx (gx a.outs k_) i) (gx (gx b.outs k_) i)).2)))) trivial trivial fun h hh=>?_;rcases isp H3 with ⟨c9,H3⟩|⟨c9,H3⟩;rotate_left
      .skip;refine ct (f2 hh (zAb c9)) ?_;apply dv;refine rk [4] [] hh fun h hh=>?_;cases H3;obtain rfl:=sinm H2;obtain rfl:=sinm H1;obtain rfl:=sinl H;exact rt hh
      refine cf (f2 hh (zAa c9)) ?_;refine sk ?_;refine rk [2,3,5,6] [] hh fun h hh=>?_;exact rd m hh ⟨(dx.wrap (i+1)),H3,kq hh,rfl⟩
     clear hh h;rintro h bs ⟨s_3,rfl,hh,rfl⟩;replace H2:=sinr H2;cases H2;exact ce hh ⟨_,rfl,kq hh,rfl⟩
    refine ct (f2 hh (zAa c5)) ?_;apply dv;refine rk [4] [] hh fun h hh=>?_;cases H2;obtain rfl:=sinm H1;obtain rfl:=sinl H;exact rt hh
   clear hh h;rintro h bs ⟨s_2,rfl,hh,rfl⟩;replace H1:=sinr H1;refine rk [2,3,5] [] hh fun h hh=>?_;exact rd m hh ⟨(dx.wrap (k_+1)),H1,kq hh,rfl⟩
  clear hh h;rintro h bs ⟨s_,rfl,hh,rfl⟩;replace H:=sinr H;apply dv;refine rk [4] [] hh fun h hh=>?_;cases H;exact rt hh
 refine ct (f2 hh (zAa c1)) ?_;apply dv;refine rk [4] [] hh fun h hh=>?_;cases H;exact rt hh
def zlg (k:Nat) (a:Rule) (b:Rule):Option Bool:=(if a.step=b.step then ((zhz k a b).bind fun cz=>some cz) else some false)
theorem z1b (ax:Axs) (hx:NoAx ax) (k:Nat) (a:Rule) (b:Rule) (v:Bool) (H:zlg k a b=some v):Pure Tryz.prog (EE ax) [] 117 [zai a,zai b] (.bool v):=by
 rw [zlg] at H;refine en [.tmp 4] 15 [0,1] (hx.no _ (by decide)) (fn117 ax) ?_;intro h hh;apply dv;refine rk [2,3] [] hh fun h hh=>?_;rcases isp H with ⟨c1,H⟩|⟨c1,H⟩;rotate_left
 .skip;apply dv;refine rk [4] [] (f2 hh (zAb c1)) fun h hh=>?_;cases H;exact rt hh
 obtain ⟨cz,e2,H⟩:=zad H;apply dv;refine rkp [4] [] [.bool cz] (f2 hh (zAa c1)) ?_ ?_
 .exact ⟨fc ((ztw ax hx k a b cz e2 ).call _),trivial⟩
 clear hh h;intro h hh;cases H;exact rt hh
def zgs (k:Nat) (a:Rule) (b:Rule):Option Bool:=(if a.prio=b.prio then (if a.mat=b.mat then ((zlg k a b).bind fun av=>some av) else some false) else some false)
theorem zmy (ax:Axs) (hx:NoAx ax) (k:Nat) (a:Rule) (b:Rule) (v:Bool) (H:zgs k a b=some v):Pure Tryz.prog (EE ax) [] 88 [zai a,zai b] (.bool v):=by
 rw [zgs] at H;refine en [.tmp 4] 22 [0,1] (hx.no _ (by decide)) (fn88 ax) ?_;intro h hh;apply dv;refine rk [2,3] [] hh fun h hh=>?_;rcases isp H with ⟨c1,H⟩|⟨c1,H⟩;rotate_left
 .skip;apply dv;refine rk [4] [] (f2 hh (zAb c1)) fun h hh=>?_;cases H;exact rt hh
 rcases isp H with ⟨c2,H⟩|⟨c2,H⟩;rotate_left
 .skip;apply dv;refine rk [4] [] (f3 hh (zAa c1) (f2 (zAb c2) ((ylu ax a.mat b.mat).1))) fun h hh=>?_;cases H;exact rt hh
 obtain ⟨av,e3,H⟩:=zad H;apply dv;refine rkp [4] [] [.bool av] (f3 hh (zAa c1) (f2 (zAa c2) ((ylu ax a.mat b.mat).1))) ?_ ?_
 .exact ⟨fc ((z1b ax hx k a b av e3 ).call _),trivial⟩
 clear hh h;intro h hh;cases H;exact rt hh
def zfh (k:Nat) (t:List Rule) (u:List Rule):Nat->Int->Option (Bool ⊕ Unit)
 |0,_=>none
 |m+1,k_=>(if k_<(t.length:Int) then (if 0<=k_/\k_<(t.length:Int) then (if 0<=k_/\k_<(u.length:Int) then ((zgs k (gx t k_) (gx u k_)).bind fun aw=>(if aw=true then zfh k t u m (dx.wrap (k_+1)) else some (.inl false))) else none) else none) else some (.inr ()))
def znd (k:Nat) (t:List Rule) (u:List Rule):Option Bool:=(if (t.length:Int)≠(u.length:Int) then some false else ((zfh k t u k 0:Option (Bool ⊕ Unit)).bind fun o=>il (fun r=>some r) (fun s_=>some true) o))
theorem z3b (ax:Axs) (hx:NoAx ax) (k:Nat) (t:List Rule) (u:List Rule) (v:Bool) (H:znd k t u=some v):Pure Tryz.prog (EE ax) [] 49 [zag t,zag u] (.bool v):=by
 rw [znd] at H;refine en [.tmp 4] 29 [0,1] (hx.no _ (by decide)) (fn49 ax) ?_;intro h hh;apply dv;refine rk [0,1] [] hh fun h hh=>?_;repeat apply dv
 refine rk [0,1,11] [] hh fun h hh=>?_;rcases isp H with ⟨c1,H⟩|⟨c1,H⟩;rotate_left
 .skip;refine cf (f2 hh (zAb c1)) ?_;refine sk ?_;repeat apply dv
  refine rk [0,1,5] [] hh fun h hh=>?_;obtain ⟨o,H1,H⟩:=zad H;refine cu [] 0 (fun h bs=>∃ s_:Unit,o=.inr s_/\(True)/\bs=[]) ?_ ?_
  .skip;apply ey;refine gt [0,1,5] (fun m h bs=>∃ (k_:Int),zfh k t u m k_=some o/\(h 0=zag t/\h 1=zag u/\h 5=.int .i64 k_)/\bs=[]) ?_ k _ _ ?_;rotate_left
   .exact ⟨0,H1,kq hh,rfl⟩
   clear hh h H1;rintro m h bs ⟨k_,H1,hh,rfl⟩;rcases m with _|m
   .rw [zfh] at H1;cases H1
   rw [zfh] at H1;repeat apply dv
   refine rk [0,1,5,15] [] hh fun h hh=>?_;rcases isp H1 with ⟨c2,H1⟩|⟨c2,H1⟩;rotate_left
   .skip;refine cf (f2 hh (zAb c2)) ?_;refine xk ?_;cases H1;exact ce hh ⟨_,rfl,kq hh,rfl⟩
   refine ct (f2 hh (zAa c2)) ?_;refine sk ?_;apply dv;apply ey;obtain ⟨g3,H1⟩:=isg H1;obtain ⟨g4,H1⟩:=isg H1;obtain ⟨aw,e5,H1⟩:=zad H1;apply dv;refine dk 8 [0,1,5,6] [] [] [(.bool aw,stL [])] (f3 hh (zaf g3) (zaf g4)) trivial ?_ ?_
   .exact ⟨fc ((zmy ax hx k (gx t k_) (gx u k_) aw e5 ).call _),trivial⟩
   clear hh h;intro h hh;apply dv;refine rk [0,1,5,28] [] hh fun h hh=>?_;rcases isb H1 with ⟨c6,H1⟩|⟨c6,H1⟩;rotate_left
   .skip;refine ct (f2 hh c6) ?_;apply dv;refine rk [4] [] (f2 hh c6) fun h hh=>?_;cases H1;obtain rfl:=sinl H;exact rt hh
   refine cf (f2 hh c6) ?_;refine sk ?_;refine rk [0,1,5] [] (f2 hh c6) fun h hh=>?_;exact rd m hh ⟨(dx.wrap (k_+1)),H1,kq hh,rfl⟩
  clear hh h;rintro h bs ⟨s_,rfl,hh,rfl⟩;replace H:=sinr H;apply dv;refine rk [4] [] hh fun h hh=>?_;cases H;exact rt hh
 refine ct (f2 hh (zAa c1)) ?_;apply dv;refine rk [4] [] hh fun h hh=>?_;cases H;exact rt hh
def zkj (k:Nat) (r:Rule):Option Bool:=(if r.step=(-1) then some (decide ((r.outs.length:Int)=0)) else some false)
theorem zuz (ax:Axs) (hx:NoAx ax) (k:Nat) (r:Rule) (v:Bool) (H:zkj k r=some v):Pure Tryz.prog (EE ax) [] 93 [zai r] (.bool v):=by
 rw [zkj] at H;refine en [.tmp 2] 12 [0] (hx.no _ (by decide)) (fn93 ax) ?_;intro h hh;apply dv;refine rk [1] [] hh fun h hh=>?_;rcases isp H with ⟨c1,H⟩|⟨c1,H⟩;rotate_left
 .skip;apply dv;refine rk [2] [] (f2 hh (zAb c1)) fun h hh=>?_;cases H;exact rt hh
 apply dv;refine rk [2] [] (f2 hh (zAa c1)) fun h hh=>?_;cases H;exact rt hh
def zlh (k:Nat) (r:Rule):Option Bool:=(if r.step=(-1) then some (decide ((r.outs.length:Int)=0)) else some false)
theorem zqb (ax:Axs) (hx:NoAx ax) (k:Nat) (r:Rule) (v:Bool) (H:zlh k r=some v):Pure Tryz.prog (EE ax) [] 73 [zai r] (.bool v):=by
 rw [zlh] at H;refine en [.tmp 2] 12 [0] (hx.no _ (by decide)) (fn73 ax) ?_;intro h hh;apply dv;refine rk [1] [] hh fun h hh=>?_;rcases isp H with ⟨c1,H⟩|⟨c1,H⟩;rotate_left
 .skip;apply dv;refine rk [2] [] (f2 hh (zAb c1)) fun h hh=>?_;cases H;exact rt hh
 apply dv;refine rk [2] [] (f2 hh (zAa c1)) fun h hh=>?_;cases H;exact rt hh
theorem gxA {n:Nat} (a:Ar n) {i:Nat} (h:i<n):gx a.l (i:Int)=a.l[i]'(by rw [a.h];exact h):=zbz (by rw [a.h];exact h)
theorem ys0 {n:Nat} (a:Ar n) (q:Int->Bool):((iz n).all fun j=>q (gx a.l (j:Int)))=a.l.all q:=by
  rw [Bool.eq_iff_iff,fe,zxm];constructor
  . intro h j hj;have:=h j (ks.2 (by rw [a.h] at hj;exact hj))
    rwa [zbz hj] at this
  . intro h j hj;have hj':j<a.l.length:=by rw [a.h];exact ks.1 hj
    rw [zbz hj'];exact h j hj'
theorem zm3 {α:Type} [DecidableEq α] (a b:List α) (h:a.length=b.length):((iz a.length).all fun j=>decide (a[j]?=b[j]?))=decide (a=b):=by
  rw [Bool.eq_iff_iff,fe,decide_eq_true_eq];constructor
  . intro hh;apply List.ext_getElem?;intro i;by_cases hi:i<a.length
    . have:=hh i (ks.2 hi);simpa using this
    . rw [jc (by omega),jc (by omega)]
  . rintro rfl j _;simp
theorem lt10 {a:Nat} (h:a<10):(a:Int)<10:=by omega
theorem zae {a b:Nat} (h:a<b):(a:Int)<(b:Int):=by omega
theorem zp2 {k:Nat} (a b:List Rule) (f:Rule->Rule->Option Bool) (hf:∀ x,x∈a->∀ y,y∈b->f x y=some (decide (x=y))) (hl:a.length<big) (hk:a.length<k):zdc k a b f=some (decide (a=b)):=by
  unfold zdc;by_cases hlen:a.length=b.length
  . rw [zAd (by omega),zea (L:=za3 k a b f) a.length false (fun j=>decide (a[j]?=b[j]?)) hl (fun m j h=>by
      have h2:j<b.length:=by omega
      rw [za3,zAc (zae h),zAc ⟨by omega,zae h⟩,zAc ⟨by omega,zae h2⟩,zbz h,zbz h2];rw [hf _ (fi h) _ (fi h2),dw,d6 h,d6 h2]
      simp only [du]) (fun m=>by rw [za3,zAd (by omega)]) hk,zm3 a b hlen,dw]
    cases decide (a=b)<;>rfl
  . rw [zAc (by omega)];congr 1;exact (zAb fun h=>hlen (by rw [h])).symm
theorem zp3 {k:Nat} (a b:List (List Alt)) (f:(List Alt)->(List Alt)->Option Bool) (hf:∀ x,x∈a->∀ y,y∈b->f x y=some (decide (x=y))) (hl:a.length<big) (hk:a.length<k):zdd k a b f=some (decide (a=b)):=by
  unfold zdd;by_cases hlen:a.length=b.length
  . rw [zAd (by omega),zea (L:=za4 k a b f) a.length false (fun j=>decide (a[j]?=b[j]?)) hl (fun m j h=>by
      have h2:j<b.length:=by omega
      rw [za4,zAc (zae h),zAc ⟨by omega,zae h⟩,zAc ⟨by omega,zae h2⟩,zbz h,zbz h2];rw [hf _ (fi h) _ (fi h2),dw,d6 h,d6 h2]
      simp only [du]) (fun m=>by rw [za4,zAd (by omega)]) hk,zm3 a b hlen,dw]
    cases decide (a=b)<;>rfl
  . rw [zAc (by omega)];congr 1;exact (zAb fun h=>hlen (by rw [h])).symm
theorem zx8 {k:Nat} (a b:List Alt) (hl:a.length<big) (hk:a.length<k):ze6 k a b=some (decide (a=b)):=by
  unfold ze6;by_cases hlen:a.length=b.length
  . rw [zAd (by omega),zea (L:=zbx k a b) a.length false (fun j=>decide (a[j]?=b[j]?)) hl (fun m j h=>by
      have h2:j<b.length:=by omega
      rw [zbx,zAc (zae h),zAc ⟨by omega,zae h⟩,zAc ⟨by omega,zae h2⟩,zbz h,zbz h2,d6 h,d6 h2]
      simp only [du,decide_eq_true_eq]) (fun m=>by rw [zbx,zAd (by omega)]) hk,zm3 a b hlen,dw]
    cases decide (a=b)<;>rfl
  . rw [zAc (by omega)];congr 1;exact (zAb fun h=>hlen (by rw [h])).symm
/-! patterns -/
def zcz (x:Int):Bool:=decide (0<=x/\x<=65535)
def zaz (h:Ar 10):Bool:=h.l.all zcz
def zrw (p:Pat):Bool:=(iz 10).all fun i=>decide (iAnd .i64 (gx p.bits.l (i:Int)) (gx p.mask.l (i:Int))=gx p.bits.l (i:Int))
def zas (p:Pat):Bool:=zaz p.mask && (zaz p.bits && zrw p)
theorem zoh {x:Int} (h:zcz x=true):∃ n:Nat,x=(n:Int)/\n<65536:=by
  have:=zAe h;exact ⟨x.toNat,by omega,by omega⟩
theorem zqq {h:Ar 10} (hr:zaz h=true) {i:Nat} (hi:i<10):∃ n:Nat,gx h.l (i:Int)=(n:Int)/\n<65536:=by
  rw [gxA h hi];exact zoh (fe.1 hr _ (fi _))
theorem zqs {k:Nat} (h:Ar 10) (hk:10<k):zf5 k h=some (zaz h):=by
  unfold zf5
  rw [zea (L:=zcm k h) 10 false (fun i=>zcz (gx h.l (i:Int))) (by decide) (fun m j hj=>by
    rw [zcm,zAc (lt10 hj),zAc ⟨by omega,lt10 hj⟩];unfold zcz;by_cases c1:gx h.l (j:Int)<0
    . rw [zAc c1,zAd (by rw [decide_eq_true_eq];omega)]
    . rw [zAd c1];by_cases c2:65535<gx h.l (j:Int)
      . rw [zAc c2,zAd (by rw [decide_eq_true_eq];omega)]
      . rw [zAd c2,zAc (by rw [decide_eq_true_eq];omega)]) (fun m=>by rw [zcm];exact zAd (by decide)) hk,dw,ys0]
  unfold zaz;cases h.l.all zcz<;>rfl
theorem ycn {k:Nat} (p:Pat) (hk:10<k):zj0 k p.bits p.mask=some (zrw p):=by
  unfold zj0 zrw
  rw [zea (L:=zd3 k p.bits p.mask) 10 false (fun i=>decide (iAnd .i64 (gx p.bits.l (i:Int)) (gx p.mask.l (i:Int))=gx p.bits.l (i:Int))) (by decide) (fun m j hj=>by
    rw [zd3,zAc (lt10 hj),zAc ⟨by omega,lt10 hj⟩];by_cases c:iAnd .i64 (gx p.bits.l (j:Int)) (gx p.mask.l (j:Int))=gx p.bits.l (j:Int)
    . rw [zAd (fun h=>h c),zAc (zAa c)]
    . rw [zAc c,zAd (by rw [decide_eq_true_eq];exact c)]) (fun m=>by rw [zd3];exact zAd (by decide)) hk,dw]
  cases (iz 10).all _<;>rfl
theorem z32 {k:Nat} (p:Pat) (hk:10<k):zjp k p=some (zas p):=by
  unfold zjp zas
  rw [zqs _ hk,zqs _ hk,dw,dw,ycn p hk];cases zaz p.mask<;>cases zaz p.bits<;>rfl
theorem z31 {k:Nat} (p:Pat) (hk:10<k):zh0 k p=some (zas p):=by
  unfold zh0;rw [z32 _ hk];rfl
/-! rules and tables -/
def zia (r:Rule):Prop:=r.outs.length<big/\∀ l,l∈r.outs->l.length<big
def z4e (t:List Rule):Prop:=t.length<big/\∀ r,r∈t->zia r
theorem z6v {k:Nat} (a b:Rule) (ha:zia a) (hk:big<=k):ziq k a b=some (decide (a.step=b.step/\a.outs=b.outs)):=by
  unfold ziq;rw [zp3 a.outs b.outs _ (fun x hx y hy=>by unfold zg5;rw [zx8 x y (ha.2 x hx) (fb (ha.2 x hx) hk)];rfl) ha.1 (fb ha.1 hk)];by_cases c:a.step=b.step
  . rw [zAc c];simp [c]
  . rw [zAd c];simp [c]
theorem zo8 {k:Nat} (a b:Rule) (ha:zia a) (hk:big<=k):zd8 k a b=some (decide (a=b)):=by
  unfold zd8;rw [z6v a b ha hk];obtain ⟨p,m,s,o⟩:=a;obtain ⟨p2,m2,s2,o2⟩:=b;simp only [Rule.mk.injEq];by_cases c1:p=p2
  . rw [zAc c1];by_cases c2:m=m2
    . rw [zAc c2];simp [c1,c2]
    . rw [zAd c2];simp [c2]
  . rw [zAd c1];simp [c1]
theorem yca {k:Nat} (t u:List Rule) (ht:z4e t) (hk:big<=k):zhg k t u=some (decide (t=u)):=by
  unfold zhg;rw [zp2 t u _ (fun x hx y hy=>zo8 x y (ht.2 x hx) hk) ht.1 (fb ht.1 hk)];rfl
theorem z30 {k:Nat} (a b:Rule) (ha:zia a) (hk:big<=k):zhz k a b=some (decide (a.outs=b.outs)):=by
  unfold zhz;by_cases hlen:a.outs.length=b.outs.length
  . rw [zAd (by omega),zea (L:=zc3 k a b) a.outs.length false (fun j=>decide (a.outs[j]?=b.outs[j]?)) ha.1 (fun m j h=>by
      have h2:j<b.outs.length:=by omega
      rw [zc3,zAc (zae h),zAc ⟨by omega,zae h⟩,zAc ⟨by omega,zae h2⟩,zbz h,zbz h2];have hx:=ha.2 _ (fi h);rw [d6 h,d6 h2];by_cases hl2:a.outs[j].length=b.outs[j].length
      . rw [zAd (by omega),zea (L:=zc2 k a b (j:Int)) a.outs[j].length false (fun i=>decide (a.outs[j][i]?=b.outs[j][i]?)) hx (fun m i hi=>by
          have hi2:i<b.outs[j].length:=by omega
          rw [zc2,zbz h,zbz h2,zAc (zae hi),zAc ⟨by omega,zae hi⟩,zAc ⟨by omega,zae hi2⟩,zbz hi,zbz hi2,d6 hi,d6 hi2]
          simp only [du,decide_eq_true_eq]) (fun m=>by rw [zc2,zbz h,zAd (by omega)]) (fb hx hk),zm3 _ _ hl2,dw]
        by_cases c:a.outs[j]=b.outs[j]
        . rw [zAa c,zAa (congrArg some c)];rfl
        . rw [zAb c,zAb (fun h=>c (Option.some.inj h))];rfl
      . rw [zAc (by omega),zAb (fun h=>hl2 (by rw [Option.some.inj h]))];rfl) (fun m=>by rw [zc3,zAd (by omega)]) (fb ha.1 hk),zm3 _ _ hlen,dw]
    cases decide (a.outs=b.outs)<;>rfl
  . rw [zAc (by omega)];congr 1;exact (zAb fun h=>hlen (by rw [h])).symm
theorem yfo {k:Nat} (a b:Rule) (ha:zia a) (hk:big<=k):zlg k a b=some (decide (a.step=b.step/\a.outs=b.outs)):=by
  unfold zlg;rw [z30 a b ha hk];by_cases c:a.step=b.step
  . rw [zAc c];simp [c]
  . rw [zAd c];simp [c]
theorem zs7 {k:Nat} (a b:Rule) (ha:zia a) (hk:big<=k):zgs k a b=some (decide (a=b)):=by
  unfold zgs;rw [yfo a b ha hk];obtain ⟨p,m,s,o⟩:=a;obtain ⟨p2,m2,s2,o2⟩:=b;simp only [Rule.mk.injEq];by_cases c1:p=p2
  . rw [zAc c1];by_cases c2:m=m2
    . rw [zAc c2];simp [c1,c2]
    . rw [zAd c2];simp [c2]
  . rw [zAd c1];simp [c1]
theorem yj6 {k:Nat} (t u:List Rule) (ht:z4e t) (hk:big<=k):znd k t u=some (decide (t=u)):=by
  unfold znd;by_cases hlen:t.length=u.length
  . rw [zAd (by omega),zea (L:=zfh k t u) t.length false (fun j=>decide (t[j]?=u[j]?)) ht.1 (fun m j h=>by
      have h2:j<u.length:=by omega
      rw [zfh,zAc (zae h),zAc ⟨by omega,zae h⟩,zAc ⟨by omega,zae h2⟩,zbz h,zbz h2,zs7 _ _ (ht.2 _ (fi h)) hk,dw,d6 h,d6 h2]
      simp only [du]) (fun m=>by rw [zfh,zAd (by omega)]) (fb ht.1 hk),zm3 t u hlen,dw]
    cases decide (t=u)<;>rfl
  . rw [zAc (by omega)];congr 1;exact (zAb fun h=>hlen (by rw [h])).symm
def fAlt (n:Net) (a:Alt):Bool:=decide (-1<=a.link/\a.link<n.links.length) && zas a.mod
def fOut (n:Net) (l:List Alt):Bool:=decide (1<=l.length/\l.length<=8) && l.all (fAlt n)
def zj9 (n:Net) (steps:Int) (r:Rule):Bool:=decide (1<=r.prio/\r.prio<=65535) && (zas r.mat && (decide (-1<=r.step/\r.step<steps/\r.outs.length<=16) && r.outs.all (fOut n)))
theorem ycm {k:Nat} (n:Net) (steps:Int) (r:Rule) (hr:zia r) (hk:big<=k):zjz k n steps r=some (zj9 n steps r):=by
  have hk10:10<k:=fb (by decide) hk;unfold zjz zj9;rw [z32 _ hk10,dw]
  have hloop:zd2 k n r k 0=some (if r.outs.all (fOut n)=true then .inr () else .inl false):=by
    refine zom r.outs false (fOut n) hr.1 (fun m j h=>?_) (fun m=>by rw [zd2,zAd (by omega)]) (fb hr.1 hk);have hx:=hr.2 _ (fi h);rw [zd2,zAc (zae h),zAc ⟨by omega,zae h⟩,zbz h];unfold fOut;by_cases c1:(r.outs[j].length:Int)<1
    . rw [zAc c1,zAb (by omega)];rfl
    . rw [zAd c1,dw];by_cases c2:8<(r.outs[j].length:Int)
      . rw [zAa c2,zAb (by omega)];rfl
      . rw [zAb c2,zAa (by omega)];simp only [oc,if_false,jn]
        rw [zom (L:=zd1 k n r (j:Int)) r.outs[j] false (fAlt n) hx (fun m i hi=>by
          rw [zd1,zAc ⟨by omega,zae h⟩,zbz h,zAc (zae hi),zAc ⟨by omega,zae hi⟩,zbz hi,z31 _ hk10,dw];unfold fAlt;by_cases d1:r.outs[j][i].link < -1
          . rw [zAc d1,zAb (by omega)];rfl
          . rw [zAd d1];by_cases d2:(n.links.length:Int)<=r.outs[j][i].link
            . rw [zAc d2,zAb (by omega)];rfl
            . rw [zAd d2,zAa (by omega)];rfl) (fun m=>by rw [zd1,zAc ⟨by omega,zae h⟩,zbz h,zAd (by omega)]) (fb hx hk),dw]
        cases r.outs[j].all (fAlt n)<;>rfl
  rw [hloop];by_cases c1:r.prio<1
  . rw [zAc c1,zAb (by omega)];rfl
  . rw [zAd c1];by_cases c2:65535<r.prio
    . rw [zAc c2,zAb (by omega)];rfl
    . rw [zAd c2,zAa (show 1<=r.prio/\r.prio<=65535 by omega)]
      cases zas r.mat with
      |false=>rfl
      |true =>
        simp only [if_true,jn];by_cases c3:r.step < -1
        . rw [zAc c3,zAb (by omega)];rfl
        . rw [zAd c3];by_cases c4:steps<=r.step
          . rw [zAc c4,zAb (by omega)];rfl
          . rw [zAd c4,dw];by_cases c5:16<(r.outs.length:Int)
            . rw [zAa c5,zAb (by omega)];rfl
            . rw [zAb c5,zAa (by omega)];simp only [oc,if_false,jn];cases r.outs.all (fOut n)<;>rfl
def zfp (k:Nat) (n:Net):Nat->Int->(List ByteArray)->Nat->Option (List ByteArray×Nat)
 |0,_,_,_=>none
 |m+1,i,l,n2=>(if i<(n.nodes.length:Int) then (if 0<=i/\i<(n.nodes.length:Int) then (if (n2+1)*17<=1000000000 then zfp k n m (dx.wrap (i+1)) (l++[(gx n.nodes i).name]) (n2+1) else none) else none) else some (l,n2))
def zfo (k:Nat) (n:Net):Nat->Int->(List ByteArray)->Nat->Option (List ByteArray×Nat)
 |0,_,_,_=>none
 |m+1,i2,l2,n3=>(if i2<(n.edges.length:Int) then (if 0<=i2/\i2<(n.edges.length:Int) then (if (n3+1)*17<=1000000000 then zfo k n m (dx.wrap (i2+1)) (l2++[(gx n.edges i2).name]) (n3+1) else none) else none) else some (l2,n3))
def zlj (k:Nat) (n:Net):Option (List ByteArray×List ByteArray):=((zfp k n k 0 [] 0:Option (List ByteArray×Nat)).bind fun s_=>((zfo k n k 0 [] 0:Option (List ByteArray×Nat)).bind fun s_2=>(if s_.1.length=s_.2 then (if s_2.1.length=s_2.2 then some (s_.1,s_2.1) else none) else none)))
theorem z1d (ax:Axs) (hx:NoAx ax) (k:Nat) (n:Net) (v:List ByteArray×List ByteArray) (H:zlj k n=some v):Pure Tryz.prog (EE ax) [] 37 [eNet n] (tupT [strs v.1,strs v.2]):=by
 rw [zlj] at H;refine enN [.tmp 2,.tmp 3] 42 [0] (hx.no _ (by decide)) (fn37 ax) ?_;intro h hh;apply dv;refine rk [1] [] hh fun h hh=>?_;apply dv;refine rk [1,4] [] hh fun h hh=>?_;refine vk 4 1 [1,4] hh fun h hh=>?_;apply dv;refine rk [1,4,5] [] hh fun h hh=>?_;refine vk 5 1 [1,4,5] hh fun h hh=>?_;repeat apply dv
 refine rk [1,4,5,6] [] hh fun h hh=>?_;obtain ⟨s_,H1,H⟩:=zad H;refine cu [1,4,5] 3 (fun h bs=>(h 1=.ptr 0 0 3/\h 4=.arr 1 1 0 s_.2 s_.2 s_.2/\h 5=.arr 2 1 0 0 0 0)/\bs=[.cells true 3 [zau n.nodes,zav n.links,zaw n.edges],.cells false s_.2 (s_.1.map n5),.cells false 0 ([].map n5)]) ?_ ?_
 .skip;apply ey;refine gt [1,4,5,6] (fun m h bs=>∃ (i:Int) (l:List ByteArray) (n2:Nat),zfp k n m i l n2=some s_/\(h 1=.ptr 0 0 3/\h 4=.arr 1 1 0 n2 n2 n2/\h 5=.arr 2 1 0 0 0 0/\h 6=.int .i64 i)/\bs=[.cells true 3 [zau n.nodes,zav n.links,zaw n.edges],.cells false n2 (l.map n5),.cells false 0 ([].map n5)]) ?_ k _ _ ?_;rotate_left
  .exact ⟨0,[],0,H1,kq hh,rfl⟩
  clear hh h H1;rintro m h bs ⟨i,l,n2,H1,hh,rfl⟩;rcases m with _|m
  .rw [zfp] at H1;cases H1
  rw [zfp] at H1;repeat apply dv
  refine rk [1,4,5,6,12] [] hh fun h hh=>?_;rcases isp H1 with ⟨c1,H1⟩|⟨c1,H1⟩;rotate_left
  .skip;refine cf (f2 hh (zAb c1)) ?_;refine xk ?_;cases H1;exact ce hh ⟨kq hh,rfl⟩
  refine ct (f2 hh (zAa c1)) ?_;refine sk ?_;apply dv;apply ey;obtain ⟨g2,H1⟩:=isg H1;obtain ⟨g3,H1⟩:=isg H1;refine rg [] [] [.cells true 3 [zau n.nodes,zav n.links,zaw n.edges],.cells false (n2+1) ((l++[(gx n.nodes i).name]).map n5),.cells false 0 ([].map n5)] (fun h=>h 1=.ptr 0 0 3/\h 4=.arr 1 1 0 (n2+1) (n2+1) (n2+1)/\h 5=.arr 2 1 0 0 0 0/\h 6=.int .i64 i) (f2 hh (zaf g2)) trivial fun h hh=>?_;refine rk [1,4,5,6] [] hh fun h hh=>?_;exact rd m hh ⟨(dx.wrap (i+1)),(l++[(gx n.nodes i).name]),(n2+1),H1,kq hh,rfl⟩
 clear hh h;rintro h bs ⟨hh,rfl⟩;repeat apply dv
 refine rk [1,4,5,7] [] hh fun h hh=>?_;obtain ⟨s_2,H1,H⟩:=zad H;refine cu [4,5] 3 (fun h bs=>(h 4=.arr 1 1 0 s_.2 s_.2 s_.2/\h 5=.arr 2 1 0 s_2.2 s_2.2 s_2.2)/\bs=[.cells true 3 [zau n.nodes,zav n.links,zaw n.edges],.cells false s_.2 (s_.1.map n5),.cells false s_2.2 (s_2.1.map n5)]) ?_ ?_
 .skip;apply ey;refine gt [1,4,5,7] (fun m h bs=>∃ (i2:Int) (l2:List ByteArray) (n3:Nat),zfo k n m i2 l2 n3=some s_2/\(h 1=.ptr 0 0 3/\h 4=.arr 1 1 0 s_.2 s_.2 s_.2/\h 5=.arr 2 1 0 n3 n3 n3/\h 7=.int .i64 i2)/\bs=[.cells true 3 [zau n.nodes,zav n.links,zaw n.edges],.cells false s_.2 (s_.1.map n5),.cells false n3 (l2.map n5)]) ?_ k _ _ ?_;rotate_left
  .exact ⟨0,[],0,H1,kq hh,rfl⟩
  clear hh h H1;rintro m h bs ⟨i2,l2,n3,H1,hh,rfl⟩;rcases m with _|m
  .rw [zfo] at H1;cases H1
  rw [zfo] at H1;repeat apply dv
  refine rk [1,4,5,7,28] [] hh fun h hh=>?_;rcases isp H1 with ⟨c4,H1⟩|⟨c4,H1⟩;rotate_left
  .skip;refine cf (f2 hh (zAb c4)) ?_;refine xk ?_;cases H1;exact ce hh ⟨kq hh,rfl⟩
  refine ct (f2 hh (zAa c4)) ?_;refine sk ?_;apply dv;apply ey;obtain ⟨g5,H1⟩:=isg H1;obtain ⟨g6,H1⟩:=isg H1;refine rg [] [] [.cells true 3 [zau n.nodes,zav n.links,zaw n.edges],.cells false s_.2 (s_.1.map n5),.cells false (n3+1) ((l2++[(gx n.edges i2).name]).map n5)] (fun h=>h 1=.ptr 0 0 3/\h 4=.arr 1 1 0 s_.2 s_.2 s_.2/\h 5=.arr 2 1 0 (n3+1) (n3+1) (n3+1)/\h 7=.int .i64 i2) (f2 hh (zaf g5)) trivial fun h hh=>?_;refine rk [1,4,5,7] [] hh fun h hh=>?_;exact rd m hh ⟨(dx.wrap (i2+1)),(l2++[(gx n.edges i2).name]),(n3+1),H1,kq hh,rfl⟩
 clear hh h;rintro h bs ⟨hh,rfl⟩;apply dv;refine rk [2,3] [] hh fun h hh=>?_;obtain ⟨g7,H⟩:=isg H;obtain ⟨g8,H⟩:=isg H;refine TW.freeze 2 (b:=1) (e:=1) (off:=0) (len:=s_.2) (cap:=s_.2) (M:=s_.2) (s_.1.map n5) (kq hh) (by rfl) (by omega) (by omega) (by rw [fl,Nat.mul_one,zfc (fun _=>rfl),fx (by rw [ed];omega)]) (fun t ht=>by obtain ⟨x,_,rfl⟩:=List.mem_map.1 ht;first|rfl|exact zg2 _|exact ze3 _|exact zca _|exact zbc _ | (rw [ed];rfl)) (by rw [ed]<;>exact g7) (by omega) ?_;rw [zgb _ _ _ (by simp only [lzA]<;>omega)];simp only [scA];refine gk [2,3] hh fun h hh=>?_;refine TW.freeze 3 (b:=2) (e:=1) (off:=0) (len:=s_2.2) (cap:=s_2.2) (M:=s_2.2) (s_2.1.map n5) (kq hh) (by rfl) (by omega) (by omega) (by rw [fl,Nat.mul_one,zfc (fun _=>rfl),fx (by rw [ed];omega)]) (fun t ht=>by obtain ⟨x,_,rfl⟩:=List.mem_map.1 ht;first|rfl|exact zg2 _|exact ze3 _|exact zca _|exact zbc _ | (rw [ed];rfl)) (by rw [ed]<;>exact g8) (by omega) ?_;rw [zgb _ _ _ (by simp only [lzA]<;>omega)];simp only [scA];refine gk [2,3] hh fun h hh=>?_;cases H;exact rt hh
def zfi (k:Nat) (s_:ByteArray):Nat->Int->Option (Bool ⊕ Unit)
 |0,_=>none
 |m+1,i=>(if i<(s_.size:Int) then (((if 0<=i/\i<(s_.size:Int) then (if 97<=((bx s_ i).toNat:Int) then some (decide (((bx s_ i).toNat:Int)<=122)) else some false) else none):Option Bool).bind fun s_3=>(((if 0<=i/\i<(s_.size:Int) then (if 48<=((bx s_ i).toNat:Int) then (if ((bx s_ i).toNat:Int)<=57 then some true else some (decide (((bx s_ i).toNat:Int)=95))) else some (decide (((bx s_ i).toNat:Int)=95))) else none):Option Bool).bind fun s_4=>(if s_3=true then zfi k s_ m (dx.wrap (i+1)) else (if s_4=true then (if i=0 then some (.inl false) else zfi k s_ m (dx.wrap (i+1))) else some (.inl false))))) else some (.inr ()))
def zne (k:Nat) (s_:ByteArray):Option Bool:=((zfi k s_ k 0:Option (Bool ⊕ Unit)).bind fun o=>il (fun r=>some r) (fun s_2=>(if 1<=(s_.size:Int) then some (decide ((s_.size:Int)<=24)) else some false)) o)
theorem z3c (ax:Axs) (hx:NoAx ax) (k:Nat) (s_:ByteArray) (v:Bool) (H:zne k s_=some v):Pure Tryz.prog (EE ax) [] 82 [.str s_] (.bool v):=by
 rw [zne] at H;refine en [.tmp 2] 56 [0] (hx.no _ (by decide)) (fn82 ax) ?_;intro h hh;apply dv;refine rk [0] [] hh fun h hh=>?_;repeat apply dv
 refine rk [0,3] [] hh fun h hh=>?_;obtain ⟨o,H1,H⟩:=zad H;refine cu [0] 0 (fun h bs=>∃ s_2:Unit,o=.inr s_2/\(h 0=.str s_)/\bs=[]) ?_ ?_
 .skip;apply ey;refine gt [0,3] (fun m h bs=>∃ (i:Int),zfi k s_ m i=some o/\(h 0=.str s_/\h 3=.int .i64 i)/\bs=[]) ?_ k _ _ ?_;rotate_left
  .exact ⟨0,H1,kq hh,rfl⟩
  clear hh h H1;rintro m h bs ⟨i,H1,hh,rfl⟩;rcases m with _|m
  .rw [zfi] at H1;cases H1
  rw [zfi] at H1;repeat apply dv
  refine rk [0,3,9] [] hh fun h hh=>?_;rcases isp H1 with ⟨c1,H1⟩|⟨c1,H1⟩;rotate_left
  .skip;refine cf (f2 hh (zAb c1)) ?_;refine xk ?_;cases H1;exact ce hh ⟨_,rfl,kq hh,rfl⟩
  refine ct (f2 hh (zAa c1)) ?_;refine sk ?_;apply dv;apply ey;obtain ⟨s_3,H2,H1⟩:=zad H1;apply dv;refine cu [0,3,4] 0 (fun h bs=>(h 0=.str s_/\h 3=.int .i64 i/\h 4=.bool s_3)/\bs=[]) ?_ ?_
  .skip;obtain ⟨g2,H2⟩:=isg H2;rcases isp H2 with ⟨c3,H2⟩|⟨c3,H2⟩;rotate_left
   .skip;refine rk [0,3,4] [] (f3 hh (zAb c3) (zxf g2)) fun h hh=>?_;cases H2;exact ce hh ⟨kq hh,rfl⟩
   refine rk [0,3,4] [] (f3 hh (zAa c3) (zxf g2)) fun h hh=>?_;cases H2;exact ce hh ⟨kq hh,rfl⟩
  clear hh h;rintro h bs ⟨hh,rfl⟩;obtain ⟨s_4,H2,H1⟩:=zad H1;apply dv;refine cu [0,3,4,5] 0 (fun h bs=>(h 0=.str s_/\h 3=.int .i64 i/\h 4=.bool s_3/\h 5=.bool s_4)/\bs=[]) ?_ ?_
  .skip;obtain ⟨g4,H2⟩:=isg H2;rcases isp H2 with ⟨c5,H2⟩|⟨c5,H2⟩;rotate_left
   .skip;refine rk [0,3,4,5] [] (f3 hh (zAb c5) (zxf g4)) fun h hh=>?_;cases H2;exact ce hh ⟨kq hh,rfl⟩
   rcases isp H2 with ⟨c6,H2⟩|⟨c6,H2⟩;rotate_left
   .skip;refine rk [0,3,4,5] [] (f3 hh (zAa c5) (f2 (zAb c6) (zxf g4))) fun h hh=>?_;cases H2;exact ce hh ⟨kq hh,rfl⟩
   refine rk [0,3,4,5] [] (f3 hh (zAa c5) (f2 (zAa c6) (zxf g4))) fun h hh=>?_;cases H2;exact ce hh ⟨kq hh,rfl⟩
  clear hh h;rintro h bs ⟨hh,rfl⟩;rcases isb H1 with ⟨c7,H1⟩|⟨c7,H1⟩;rotate_left
  .skip;rcases isb H1 with ⟨c8,H1⟩|⟨c8,H1⟩;rotate_left
   .skip;apply dv;refine rk [0,3,47] [] (f3 hh c7 c8) fun h hh=>?_;refine ct hh ?_;apply dv;refine rk [2] [] (f3 hh c7 c8) fun h hh=>?_;cases H1;obtain rfl:=sinl H;exact rt hh
   apply dv;refine rk [0,3,47] [] (f3 hh c7 c8) fun h hh=>?_;rcases isp H1 with ⟨c9,H1⟩|⟨c9,H1⟩;rotate_left
   .skip;refine cf (f2 hh (zAb c9)) ?_;refine sk ?_;refine rk [0,3] [] (f3 hh c7 c8) fun h hh=>?_;exact rd m hh ⟨(dx.wrap (i+1)),H1,kq hh,rfl⟩
   refine ct (f2 hh (zAa c9)) ?_;apply dv;refine rk [2] [] (f3 hh c7 c8) fun h hh=>?_;cases H1;obtain rfl:=sinl H;exact rt hh
  apply dv;refine rk [0,3,47] [] (f2 hh c7) fun h hh=>?_;refine cf hh ?_;refine sk ?_;refine rk [0,3] [] (f2 hh c7) fun h hh=>?_;exact rd m hh ⟨(dx.wrap (i+1)),H1,kq hh,rfl⟩
 clear hh h;rintro h bs ⟨s_2,rfl,hh,rfl⟩;replace H:=sinr H;rcases isp H with ⟨c10,H⟩|⟨c10,H⟩;rotate_left
 .skip;apply dv;refine rk [2] [] (f2 hh (zAb c10)) fun h hh=>?_;cases H;exact rt hh
 apply dv;refine rk [2] [] (f2 hh (zAa c10)) fun h hh=>?_;cases H;exact rt hh
def zfm (k:Nat) (l:List ByteArray) (i:Int):Nat->Int->Option (Bool ⊕ Unit)
 |0,_=>none
 |m+1,k_=>(if k_<i then (if 0<=k_/\k_<(l.length:Int) then (if (gx l k_)=(gx l i) then some (.inl false) else zfm k l i m (dx.wrap (k_+1))) else none) else some (.inr ()))
def zfn (k:Nat) (l:List ByteArray):Nat->Int->Option (Bool ⊕ Unit)
 |0,_=>none
 |m+1,i=>(if i<(l.length:Int) then (((if 0<=i/\i<(l.length:Int) then ((zne k (gx l i)).bind fun da=>(if da=true then ((zfm k l i k 0:Option (Bool ⊕ Unit)).bind fun o=>il (fun r=>some (.inl r)) (fun s_3=>some (.inr ())) o) else some (.inl false))) else none):Option (Bool ⊕ Unit)).bind fun o2=>il (fun r=>some (.inl r)) (fun s_2=>zfn k l m (dx.wrap (i+1))) o2) else some (.inr ()))
def zjn (k:Nat) (l:List ByteArray):Option Bool:=((zfn k l k 0:Option (Bool ⊕ Unit)).bind fun o3=>il (fun r=>some r) (fun s_=>some true) o3)
theorem zqc (ax:Axs) (hx:NoAx ax) (k:Nat) (l:List ByteArray) (v:Bool) (H:zjn k l=some v):Pure Tryz.prog (EE ax) [] 38 [strs l] (.bool v):=by
 rw [zjn] at H;refine en [.tmp 2] 33 [0] (hx.no _ (by decide)) (fn38 ax) ?_;intro h hh;apply dv;refine rk [0] [] hh fun h hh=>?_;repeat apply dv
 refine rk [0,3] [] hh fun h hh=>?_;obtain ⟨o3,H1,H⟩:=zad H;refine cu [] 0 (fun h bs=>∃ s_:Unit,o3=.inr s_/\(True)/\bs=[]) ?_ ?_
 .skip;apply ey;refine gt [0,3] (fun m h bs=>∃ (i:Int),zfn k l m i=some o3/\(h 0=strs l/\h 3=.int .i64 i)/\bs=[]) ?_ k _ _ ?_;rotate_left
  .exact ⟨0,H1,kq hh,rfl⟩
  clear hh h H1;rintro m h bs ⟨i,H1,hh,rfl⟩;rcases m with _|m
  .rw [zfn] at H1;cases H1
  rw [zfn] at H1;repeat apply dv
  refine rk [0,3,9] [] hh fun h hh=>?_;rcases isp H1 with ⟨c1,H1⟩|⟨c1,H1⟩;rotate_left
  .skip;refine cf (f2 hh (zAb c1)) ?_;refine xk ?_;cases H1;exact ce hh ⟨_,rfl,kq hh,rfl⟩
  refine ct (f2 hh (zAa c1)) ?_;refine sk ?_;obtain ⟨o2,H2,H1⟩:=zad H1;apply dv;refine cu [0,3] 0 (fun h bs=>∃ s_2:Unit,o2=.inr s_2/\(h 0=strs l/\h 3=.int .i64 i)/\bs=[]) ?_ ?_
  .skip;apply ey;obtain ⟨g2,H2⟩:=isg H2;obtain ⟨da,e3,H2⟩:=zad H2;apply dv;refine rkp [0,3,4] [] [.bool da] (f2 hh (zaf g2)) ?_ ?_
   .exact ⟨fc ((z3c ax hx k (gx l i) da e3 ).call _),trivial⟩
   clear hh h;intro h hh;repeat apply dv
   refine rk [0,3,18] [] hh fun h hh=>?_;rcases isb H2 with ⟨c4,H2⟩|⟨c4,H2⟩;rotate_left
   .skip;refine ct (f2 hh c4) ?_;apply dv;refine rk [2] [] (f2 hh c4) fun h hh=>?_;cases H2;obtain rfl:=sinm H1;obtain rfl:=sinl H;exact rt hh
   refine cf (f2 hh c4) ?_;refine sk ?_;apply dv;refine rk [0,3,5] [] (f2 hh c4) fun h hh=>?_;obtain ⟨o,H3,H2⟩:=zad H2;refine cu [0,3] 0 (fun h bs=>∃ s_3:Unit,o=.inr s_3/\(h 0=strs l/\h 3=.int .i64 i)/\bs=[]) ?_ ?_
   .skip;apply ey;refine gt [0,3,5] (fun m h bs=>∃ (k_:Int),zfm k l i m k_=some o/\(h 0=strs l/\h 3=.int .i64 i/\h 5=.int .i64 k_)/\bs=[]) ?_ k _ _ ?_;rotate_left
    .exact ⟨0,H3,kq hh,rfl⟩
    clear hh h H3;rintro m h bs ⟨k_,H3,hh,rfl⟩;rcases m with _|m
    .rw [zfm] at H3;cases H3
    rw [zfm] at H3;repeat apply dv
    refine rk [0,3,5,21] [] (f2 hh c4) fun h hh=>?_;rcases isp H3 with ⟨c5,H3⟩|⟨c5,H3⟩;rotate_left
    .skip;refine cf (f2 hh (zAb c5)) ?_;refine xk ?_;cases H3;exact ce hh ⟨_,rfl,kq hh,rfl⟩
    refine ct (f2 hh (zAa c5)) ?_;refine sk ?_;apply dv;apply ey;obtain ⟨g6,H3⟩:=isg H3;apply dv;refine dk 8 [0,3,5,32] [] [] [] (f3 hh c4 (f2 (zaf g6) (zaf g2))) trivial trivial fun h hh=>?_;rcases isp H3 with ⟨c7,H3⟩|⟨c7,H3⟩;rotate_left
    .skip;refine cf (f2 hh (zAb c7)) ?_;refine sk ?_;refine rk [0,3,5] [] (f2 hh c4) fun h hh=>?_;exact rd m hh ⟨(dx.wrap (k_+1)),H3,kq hh,rfl⟩
    refine ct (f2 hh (zAa c7)) ?_;apply dv;refine rk [2] [] (f2 hh c4) fun h hh=>?_;cases H3;obtain rfl:=sinm H2;obtain rfl:=sinm H1;obtain rfl:=sinl H;exact rt hh
   clear hh h;rintro h bs ⟨s_3,rfl,hh,rfl⟩;replace H2:=sinr H2;cases H2;exact ce hh ⟨_,rfl,kq hh,rfl⟩
  clear hh h;rintro h bs ⟨s_2,rfl,hh,rfl⟩;replace H1:=sinr H1;refine rk [0,3] [] hh fun h hh=>?_;exact rd m hh ⟨(dx.wrap (i+1)),H1,kq hh,rfl⟩
 clear hh h;rintro h bs ⟨s_,rfl,hh,rfl⟩;replace H:=sinr H;apply dv;refine rk [2] [] hh fun h hh=>?_;cases H;exact rt hh
def zhi (k:Nat) (n:Net) (k_:Int):Option Bool:=(if 0<=k_ then some (decide (k_<(n.nodes.length:Int))) else some false)
theorem zcu (ax:Axs) (hx:NoAx ax) (k:Nat) (n:Net) (k_:Int) (v:Bool) (H:zhi k n k_=some v):Pure Tryz.prog (EE ax) [] 39 [eNet n,.int .i64 k_] (.bool v):=by
 rw [zhi] at H;refine en [.tmp 4] 14 [0,1] (hx.no _ (by decide)) (fn39 ax) ?_;intro h hh;apply dv;refine rk [1,2] [] hh fun h hh=>?_;rcases isp H with ⟨c1,H⟩|⟨c1,H⟩;rotate_left
 .skip;apply dv;refine rk [4] [] (f2 hh (zAb c1)) fun h hh=>?_;cases H;exact rt hh
 apply dv;refine rk [4] [] (f2 hh (zAa c1)) fun h hh=>?_;cases H;exact rt hh
def zfs (k:Nat) (n:Net):Nat->Int->Option (Int ⊕ Unit)
 |0,_=>none
 |m+1,i=>(if i<(n.nodes.length:Int) then (if 0<=i/\i<(n.nodes.length:Int) then (if ((gx n.nodes i).rules)<0 then some (.inl 1) else (if 4000<((gx n.nodes i).rules) then some (.inl 1) else (if ((gx n.nodes i).entries)<0 then some (.inl 1) else (if 100000<((gx n.nodes i).entries) then some (.inl 1) else zfs k n m (dx.wrap (i+1)))))) else none) else some (.inr ()))
def zfr (k:Nat) (n:Net):Nat->Int->Option (Int ⊕ Unit)
 |0,_=>none
 |m+1,i2=>(if i2<(n.links.length:Int) then (if 0<=i2/\i2<(n.links.length:Int) then ((zhi k n ((gx n.links i2).frm)).bind fun bf=>(if bf=true then ((zhi k n ((gx n.links i2).to)).bind fun br=>(if br=true then (if ((gx n.links i2).frm)=((gx n.links i2).to) then some (.inl 1) else (if ((gx n.links i2).cap)<0 then some (.inl 1) else (if 1048576<((gx n.links i2).cap) then some (.inl 1) else zfr k n m (dx.wrap (i2+1))))) else some (.inl 1))) else some (.inl 1))) else none) else some (.inr ()))
def zfq (k:Nat) (n:Net):Nat->Int->Option (Int ⊕ Unit)
 |0,_=>none
 |m+1,i3=>(if i3<(n.edges.length:Int) then (if 0<=i3/\i3<(n.edges.length:Int) then ((zhi k n ((gx n.edges i3).node)).bind fun db=>(if db=true then zfq k n m (dx.wrap (i3+1)) else some (.inl 1))) else none) else some (.inr ()))
def zlk (k:Nat) (n:Net):Option Int:=(((if 200<(n.nodes.length:Int) then some true else (if 2000<(n.links.length:Int) then some true else some (decide (400<(n.edges.length:Int))))):Option Bool).bind fun s_=>(if s_=true then some 2 else ((zlj k n).bind fun b9=>((zjn k b9.1).bind fun de=>((zjn k b9.2).bind fun df=>(((if de=true then some (!df) else some true):Option Bool).bind fun s_2=>(if s_2=true then some 4 else ((zfs k n k 0:Option (Int ⊕ Unit)).bind fun o3=>il (fun r=>some r) (fun s_3=>((zfr k n k 0:Option (Int ⊕ Unit)).bind fun o2=>il (fun r=>some r) (fun s_4=>((zfq k n k 0:Option (Int ⊕ Unit)).bind fun o=>il (fun r=>some r) (fun s_5=>some 0) o)) o2)) o3))))))))
theorem z1e (ax:Axs) (hx:NoAx ax) (k:Nat) (n:Net) (v:Int) (H:zlk k n=some v):Pure Tryz.prog (EE ax) [] 9 [eNet n] (.int .i64 v):=by
 rw [zlk] at H;refine en [.tmp 2] 130 [0] (hx.no _ (by decide)) (fn9 ax) ?_;intro h hh;apply dv;refine rk [1] [] hh fun h hh=>?_;obtain ⟨s_,H1,H⟩:=zad H;repeat apply dv
 refine cu [1,27] 1 (fun h bs=>(h 1=.ptr 0 0 3/\h 27=.bool s_)/\bs=[.cells true 3 [zau n.nodes,zav n.links,zaw n.edges]]) ?_ ?_
 .skip;rcases isp H1 with ⟨c1,H1⟩|⟨c1,H1⟩;rotate_left
  .skip;rcases isp H1 with ⟨c2,H1⟩|⟨c2,H1⟩;rotate_left
   .skip;refine rk [1,27] [] (f3 hh (zAb c1) (zAb c2)) fun h hh=>?_;cases H1;exact ce hh ⟨kq hh,rfl⟩
   refine rk [1,27] [] (f3 hh (zAb c1) (zAa c2)) fun h hh=>?_;cases H1;exact ce hh ⟨kq hh,rfl⟩
  refine rk [1,27] [] (f2 hh (zAa c1)) fun h hh=>?_;cases H1;exact ce hh ⟨kq hh,rfl⟩
 clear hh h;rintro h bs ⟨hh,rfl⟩;rcases isb H with ⟨c3,H⟩|⟨c3,H⟩;rotate_left
 .skip;refine cf (f2 hh c3) ?_;refine sk ?_;obtain ⟨b9,e4,H⟩:=zad H;apply dv;refine rkp [1,3,4] [] [.tup [strs b9.1,strs b9.2]] (f2 hh c3) ?_ ?_
  .exact ⟨fc (f6 (z1d ax hx k n b9 e4 ) (by first|rfl|simp only [c3])),trivial⟩
  clear hh h;intro h hh;obtain ⟨de,e5,H⟩:=zad H;apply dv;refine rkp [1,4,5] [] [.bool de] (f2 hh c3) ?_ ?_
  .exact ⟨fc (f6 (zqc ax hx k b9.1 de e5 ) (by first|rfl|simp only [c3])),trivial⟩
  clear hh h;intro h hh;obtain ⟨df,e6,H⟩:=zad H;apply dv;refine rkp [1,5,6] [] [.bool df] (f2 hh c3) ?_ ?_
  .exact ⟨fc (f6 (zqc ax hx k b9.2 df e6 ) (by first|rfl|simp only [c3])),trivial⟩
  clear hh h;intro h hh;obtain ⟨s_2,H1,H⟩:=zad H;repeat apply dv
  refine cu [1,42] 1 (fun h bs=>(h 1=.ptr 0 0 3/\h 42=.bool s_2)/\bs=[.cells true 3 [zau n.nodes,zav n.links,zaw n.edges]]) ?_ ?_
  .skip;rcases isb H1 with ⟨c7,H1⟩|⟨c7,H1⟩;rotate_left
   .skip;refine rk [1,42] [] (f3 hh c7 c3) fun h hh=>?_;cases H1;exact ce hh ⟨kq hh,rfl⟩
   refine rk [1,42] [] (f3 hh c7 c3) fun h hh=>?_;cases H1;exact ce hh ⟨kq hh,rfl⟩
  clear hh h;rintro h bs ⟨hh,rfl⟩;rcases isb H with ⟨c8,H⟩|⟨c8,H⟩;rotate_left
  .skip;refine cf (f2 hh c8) ?_;refine sk ?_;repeat apply dv
   refine rk [1,7] [] (f3 hh c3 c8) fun h hh=>?_;obtain ⟨o3,H1,H⟩:=zad H;refine cu [1] 1 (fun h bs=>∃ s_3:Unit,o3=.inr s_3/\(h 1=.ptr 0 0 3)/\bs=[.cells true 3 [zau n.nodes,zav n.links,zaw n.edges]]) ?_ ?_
   .skip;apply ey;refine gt [1,7] (fun m h bs=>∃ (i:Int),zfs k n m i=some o3/\(h 1=.ptr 0 0 3/\h 7=.int .i64 i)/\bs=[.cells true 3 [zau n.nodes,zav n.links,zaw n.edges]]) ?_ k _ _ ?_;rotate_left
    .exact ⟨0,H1,kq hh,rfl⟩
    clear hh h H1;rintro m h bs ⟨i,H1,hh,rfl⟩;rcases m with _|m
    .rw [zfs] at H1;cases H1
    rw [zfs] at H1;repeat apply dv
    refine rk [1,7,47] [] (f3 hh c3 c8) fun h hh=>?_;rcases isp H1 with ⟨c9,H1⟩|⟨c9,H1⟩;rotate_left
    .skip;refine cf (f2 hh (zAb c9)) ?_;refine xk ?_;cases H1;exact ce hh ⟨_,rfl,kq hh,rfl⟩
    refine ct (f2 hh (zAa c9)) ?_;refine sk ?_;apply dv;apply ey;obtain ⟨g10,H1⟩:=isg H1;apply dv;refine rk [1,7,8] [] (f3 hh c3 (f2 c8 (zaf g10))) fun h hh=>?_;rcases isp H1 with ⟨c11,H1⟩|⟨c11,H1⟩;rotate_left
    .skip;rcases isp H1 with ⟨c12,H1⟩|⟨c12,H1⟩;rotate_left
     .skip;rcases isp H1 with ⟨c13,H1⟩|⟨c13,H1⟩;rotate_left
      .skip;apply dv;refine rk [1,7,72] [] (f3 hh (zAb c11) (f3 (zAb c12) (zAb c13) (f2 c3 c8))) fun h hh=>?_;rcases isp H1 with ⟨c14,H1⟩|⟨c14,H1⟩;rotate_left
       .skip;refine cf (f2 hh (zAb c14)) ?_;refine sk ?_;refine rk [1,7] [] (f3 hh c3 c8) fun h hh=>?_;exact rd m hh ⟨(dx.wrap (i+1)),H1,kq hh,rfl⟩
       refine ct (f2 hh (zAa c14)) ?_;apply dv;refine rk [2] [] (f3 hh c3 c8) fun h hh=>?_;cases H1;obtain rfl:=sinl H;exact rt hh
      apply dv;refine rk [1,7,72] [] (f3 hh (zAb c11) (f3 (zAb c12) (zAa c13) (f2 c3 c8))) fun h hh=>?_;refine ct hh ?_;apply dv;refine rk [2] [] (f3 hh c3 c8) fun h hh=>?_;cases H1;obtain rfl:=sinl H;exact rt hh
     apply dv;refine rk [1,7,72] [] (f3 hh (zAb c11) (f3 (zAa c12) c3 c8)) fun h hh=>?_;refine ct hh ?_;apply dv;refine rk [2] [] (f3 hh c3 c8) fun h hh=>?_;cases H1;obtain rfl:=sinl H;exact rt hh
    apply dv;refine rk [1,7,72] [] (f3 hh (zAa c11) (f2 c3 c8)) fun h hh=>?_;refine ct hh ?_;apply dv;refine rk [2] [] (f3 hh c3 c8) fun h hh=>?_;cases H1;obtain rfl:=sinl H;exact rt hh
   clear hh h;rintro h bs ⟨s_3,rfl,hh,rfl⟩;replace H:=sinr H;repeat apply dv
   refine rk [1,9] [] (f3 hh c3 c8) fun h hh=>?_;obtain ⟨o2,H1,H⟩:=zad H;refine cu [1] 1 (fun h bs=>∃ s_4:Unit,o2=.inr s_4/\(h 1=.ptr 0 0 3)/\bs=[.cells true 3 [zau n.nodes,zav n.links,zaw n.edges]]) ?_ ?_
   .skip;apply ey;refine gt [1,9] (fun m h bs=>∃ (i2:Int),zfr k n m i2=some o2/\(h 1=.ptr 0 0 3/\h 9=.int .i64 i2)/\bs=[.cells true 3 [zau n.nodes,zav n.links,zaw n.edges]]) ?_ k _ _ ?_;rotate_left
    .exact ⟨0,H1,kq hh,rfl⟩
    clear hh h H1;rintro m h bs ⟨i2,H1,hh,rfl⟩;rcases m with _|m
    .rw [zfr] at H1;cases H1
    rw [zfr] at H1;repeat apply dv
    refine rk [1,9,77] [] (f3 hh c3 c8) fun h hh=>?_;rcases isp H1 with ⟨c15,H1⟩|⟨c15,H1⟩;rotate_left
    .skip;refine cf (f2 hh (zAb c15)) ?_;refine xk ?_;cases H1;exact ce hh ⟨_,rfl,kq hh,rfl⟩
    refine ct (f2 hh (zAa c15)) ?_;refine sk ?_;apply dv;apply ey;obtain ⟨g16,H1⟩:=isg H1;apply dv;refine rk [1,9,10] [] (f3 hh c3 (f2 c8 (zaf g16))) fun h hh=>?_;obtain ⟨bf,e17,H1⟩:=zad H1;rcases isb H1 with ⟨c18,H1⟩|⟨c18,H1⟩;rotate_left
    .skip;apply dv;refine rkp [1,9,113] [] [.bool bf] (f3 hh c18 (f2 c3 c8)) ?_ ?_
     .exact ⟨fc (f6 (zcu ax hx k n ((gx n.links i2).frm) bf e17 ) (by first|rfl|simp only [c3,c8,c18])),trivial⟩
     clear hh h;intro h hh;refine ct hh ?_;apply dv;refine rk [2] [] (f3 hh c3 (f2 c8 c18)) fun h hh=>?_;cases H1;obtain rfl:=sinl H;exact rt hh
    obtain ⟨br,e19,H1⟩:=zad H1;rcases isb H1 with ⟨c20,H1⟩|⟨c20,H1⟩;rotate_left
    .skip;apply dv;refine rkp [1,9,113] [] [.bool bf,.bool br] (f3 hh c18 (f3 c20 c3 c8)) ?_ ?_
     .exact ⟨fc (f6 (zcu ax hx k n ((gx n.links i2).frm) bf e17 ) (by first|rfl|simp only [c3,c8,c18,c20])),fc (f6 (zcu ax hx k n ((gx n.links i2).to) br e19 ) (by first|rfl|simp only [c3,c8,c18,c20])),trivial⟩
     clear hh h;intro h hh;refine ct hh ?_;apply dv;refine rk [2] [] (f3 hh c3 (f3 c8 c18 c20)) fun h hh=>?_;cases H1;obtain rfl:=sinl H;exact rt hh
    rcases isp H1 with ⟨c21,H1⟩|⟨c21,H1⟩;rotate_left
    .skip;rcases isp H1 with ⟨c22,H1⟩|⟨c22,H1⟩;rotate_left
     .skip;apply dv;refine rkp [1,9,113] [] [.bool bf,.bool br] (f3 hh c18 (f3 c20 (zAb c21) (f3 (zAb c22) c3 c8))) ?_ ?_
      .exact ⟨fc (f6 (zcu ax hx k n ((gx n.links i2).frm) bf e17 ) (by first|rfl|simp only [c3,c8,c18,c20])),fc (f6 (zcu ax hx k n ((gx n.links i2).to) br e19 ) (by first|rfl|simp only [c3,c8,c18,c20])),trivial⟩
      clear hh h;intro h hh;rcases isp H1 with ⟨c23,H1⟩|⟨c23,H1⟩;rotate_left
      .skip;refine cf (f2 hh (zAb c23)) ?_;refine sk ?_;refine rk [1,9] [] (f3 hh c3 (f3 c8 c18 c20)) fun h hh=>?_;exact rd m hh ⟨(dx.wrap (i2+1)),H1,kq hh,rfl⟩
      refine ct (f2 hh (zAa c23)) ?_;apply dv;refine rk [2] [] (f3 hh c3 (f3 c8 c18 c20)) fun h hh=>?_;cases H1;obtain rfl:=sinl H;exact rt hh
     apply dv;refine rkp [1,9,113] [] [.bool bf,.bool br] (f3 hh c18 (f3 c20 (zAb c21) (f3 (zAa c22) c3 c8))) ?_ ?_
     .exact ⟨fc (f6 (zcu ax hx k n ((gx n.links i2).frm) bf e17 ) (by first|rfl|simp only [c3,c8,c18,c20])),fc (f6 (zcu ax hx k n ((gx n.links i2).to) br e19 ) (by first|rfl|simp only [c3,c8,c18,c20])),trivial⟩
     clear hh h;intro h hh;refine ct hh ?_;apply dv;refine rk [2] [] (f3 hh c3 (f3 c8 c18 c20)) fun h hh=>?_;cases H1;obtain rfl:=sinl H;exact rt hh
    apply dv;refine rkp [1,9,113] [] [.bool bf,.bool br] (f3 hh c18 (f3 c20 (zAa c21) (f2 c3 c8))) ?_ ?_
    .exact ⟨fc (f6 (zcu ax hx k n ((gx n.links i2).frm) bf e17 ) (by first|rfl|simp only [c3,c8,c18,c20])),fc (f6 (zcu ax hx k n ((gx n.links i2).to) br e19 ) (by first|rfl|simp only [c3,c8,c18,c20])),trivial⟩
    clear hh h;intro h hh;refine ct hh ?_;apply dv;refine rk [2] [] (f3 hh c3 (f3 c8 c18 c20)) fun h hh=>?_;cases H1;obtain rfl:=sinl H;exact rt hh
   clear hh h;rintro h bs ⟨s_4,rfl,hh,rfl⟩;replace H:=sinr H;repeat apply dv
   refine rk [1,11] [] (f3 hh c3 c8) fun h hh=>?_;obtain ⟨o,H1,H⟩:=zad H;refine cu [] 1 (fun h bs=>∃ s_5:Unit,o=.inr s_5/\(True)/\bs=[.cells true 3 [zau n.nodes,zav n.links,zaw n.edges]]) ?_ ?_
   .skip;apply ey;refine gt [1,11] (fun m h bs=>∃ (i3:Int),zfq k n m i3=some o/\(h 1=.ptr 0 0 3/\h 11=.int .i64 i3)/\bs=[.cells true 3 [zau n.nodes,zav n.links,zaw n.edges]]) ?_ k _ _ ?_;rotate_left
    .exact ⟨0,H1,kq hh,rfl⟩
    clear hh h H1;rintro m h bs ⟨i3,H1,hh,rfl⟩;rcases m with _|m
    .rw [zfq] at H1;cases H1
    rw [zfq] at H1;repeat apply dv
    refine rk [1,11,118] [] (f3 hh c3 c8) fun h hh=>?_;rcases isp H1 with ⟨c24,H1⟩|⟨c24,H1⟩;rotate_left
    .skip;refine cf (f2 hh (zAb c24)) ?_;refine xk ?_;cases H1;exact ce hh ⟨_,rfl,kq hh,rfl⟩
    refine ct (f2 hh (zAa c24)) ?_;refine sk ?_;apply dv;apply ey;obtain ⟨g25,H1⟩:=isg H1;obtain ⟨db,e26,H1⟩:=zad H1;apply dv;refine dk 7 [1,11,129] [] [] [(.bool db,stL [.cells true 3 [zau n.nodes,zav n.links,zaw n.edges]])] (f3 hh c3 (f2 c8 (zaf g25))) trivial ?_ ?_
    .exact ⟨fc (f6 (zcu ax hx k n ((gx n.edges i3).node) db e26 ) (by first|rfl|simp only [c3,c8])),trivial⟩
    clear hh h;intro h hh;rcases isb H1 with ⟨c27,H1⟩|⟨c27,H1⟩;rotate_left
    .skip;refine ct (f2 hh c27) ?_;apply dv;refine rk [2] [] (f3 hh c3 (f2 c8 c27)) fun h hh=>?_;cases H1;obtain rfl:=sinl H;exact rt hh
    refine cf (f2 hh c27) ?_;refine sk ?_;refine rk [1,11] [] (f3 hh c3 (f2 c8 c27)) fun h hh=>?_;exact rd m hh ⟨(dx.wrap (i3+1)),H1,kq hh,rfl⟩
   clear hh h;rintro h bs ⟨s_5,rfl,hh,rfl⟩;replace H:=sinr H;apply dv;refine rk [2] [] (f3 hh c3 c8) fun h hh=>?_;cases H;exact rt hh
  refine ct (f2 hh c8) ?_;apply dv;refine rk [2] [] (f3 hh c3 c8) fun h hh=>?_;cases H;exact rt hh
 refine ct (f2 hh c3) ?_;apply dv;refine rk [2] [] (f2 hh c3) fun h hh=>?_;cases H;exact rt hh
def zgf (k:Nat) (t:List Rule) (k_:Int):Nat->Int->Option (Bool ⊕ Unit)
 |0,_=>none
 |m+1,i=>(if i<(((gx t k_).outs).length:Int) then (if 0<=i/\i<(((gx t k_).outs).length:Int) then (if 10<((gx ((gx t k_).outs) i).length:Int) then some (.inl false) else zgf k t k_ m (dx.wrap (i+1))) else none) else some (.inr ()))
def zgg (k:Nat) (t:List Rule):Nat->Int->Option (Bool ⊕ Unit)
 |0,_=>none
 |m+1,k_=>(if k_<(t.length:Int) then (((if 0<=k_/\k_<(t.length:Int) then (if 20<(((gx t k_).outs).length:Int) then some (.inl false) else ((zgf k t k_ k 0:Option (Bool ⊕ Unit)).bind fun o=>il (fun r=>some (.inl r)) (fun s_3=>some (.inr ())) o)) else none):Option (Bool ⊕ Unit)).bind fun o2=>il (fun r=>some (.inl r)) (fun s_2=>zgg k t m (dx.wrap (k_+1))) o2) else some (.inr ()))
def zqa (k:Nat) (t:List Rule) (most:Int):Option Bool:=((zgg k t k 0:Option (Bool ⊕ Unit)).bind fun o3=>il (fun r=>some r) (fun s_=>some (decide ((t.length:Int)<=most))) o3)
theorem z61 (ax:Axs) (hx:NoAx ax) (k:Nat) (t:List Rule) (most:Int) (v:Bool) (H:zqa k t most=some v):Pure Tryz.prog (EE ax) [] 35 [zag t,.int .i64 most] (.bool v):=by
 rw [zqa] at H;refine en [.tmp 4] 44 [0,1] (hx.no _ (by decide)) (fn35 ax) ?_;intro h hh;apply dv;refine rk [0,1] [] hh fun h hh=>?_;repeat apply dv
 refine rk [0,1,5] [] hh fun h hh=>?_;obtain ⟨o3,H1,H⟩:=zad H;refine cu [0,1] 0 (fun h bs=>∃ s_:Unit,o3=.inr s_/\(h 0=zag t/\h 1=.int .i64 most)/\bs=[]) ?_ ?_
 .skip;apply ey;refine gt [0,1,5] (fun m h bs=>∃ (k_:Int),zgg k t m k_=some o3/\(h 0=zag t/\h 1=.int .i64 most/\h 5=.int .i64 k_)/\bs=[]) ?_ k _ _ ?_;rotate_left
  .exact ⟨0,H1,kq hh,rfl⟩
  clear hh h H1;rintro m h bs ⟨k_,H1,hh,rfl⟩;rcases m with _|m
  .rw [zgg] at H1;cases H1
  rw [zgg] at H1;repeat apply dv
  refine rk [0,1,5,10] [] hh fun h hh=>?_;rcases isp H1 with ⟨c1,H1⟩|⟨c1,H1⟩;rotate_left
  .skip;refine cf (f2 hh (zAb c1)) ?_;refine xk ?_;cases H1;exact ce hh ⟨_,rfl,kq hh,rfl⟩
  refine ct (f2 hh (zAa c1)) ?_;refine sk ?_;obtain ⟨o2,H2,H1⟩:=zad H1;apply dv;refine cu [0,1,5] 0 (fun h bs=>∃ s_2:Unit,o2=.inr s_2/\(h 0=zag t/\h 1=.int .i64 most/\h 5=.int .i64 k_)/\bs=[]) ?_ ?_
  .skip;apply ey;obtain ⟨g2,H2⟩:=isg H2;repeat apply dv
   refine rk [0,1,5,19] [] (f2 hh (zaf g2)) fun h hh=>?_;rcases isp H2 with ⟨c3,H2⟩|⟨c3,H2⟩;rotate_left
   .skip;refine cf (f2 hh (zAb c3)) ?_;refine sk ?_;apply dv;refine rk [0,1,5,6] [] hh fun h hh=>?_;obtain ⟨o,H3,H2⟩:=zad H2;refine cu [0,1,5] 0 (fun h bs=>∃ s_3:Unit,o=.inr s_3/\(h 0=zag t/\h 1=.int .i64 most/\h 5=.int .i64 k_)/\bs=[]) ?_ ?_
    .skip;apply ey;refine gt [0,1,5,6] (fun m h bs=>∃ (i:Int),zgf k t k_ m i=some o/\(h 0=zag t/\h 1=.int .i64 most/\h 5=.int .i64 k_/\h 6=.int .i64 i)/\bs=[]) ?_ k _ _ ?_;rotate_left
     .exact ⟨0,H3,kq hh,rfl⟩
     clear hh h H3;rintro m h bs ⟨i,H3,hh,rfl⟩;rcases m with _|m
     .rw [zgf] at H3;cases H3
     rw [zgf] at H3;repeat apply dv
     refine rk [0,1,5,6,27] [] (f2 hh (zaf g2)) fun h hh=>?_;rcases isp H3 with ⟨c4,H3⟩|⟨c4,H3⟩;rotate_left
     .skip;refine cf (f2 hh (zAb c4)) ?_;refine xk ?_;cases H3;exact ce hh ⟨_,rfl,kq hh,rfl⟩
     refine ct (f2 hh (zAa c4)) ?_;refine sk ?_;apply dv;apply ey;obtain ⟨g5,H3⟩:=isg H3;apply dv;refine rk [0,1,5,6,39] [] (f3 hh (zaf g2) (zaf g5)) fun h hh=>?_;rcases isp H3 with ⟨c6,H3⟩|⟨c6,H3⟩;rotate_left
     .skip;refine cf (f2 hh (zAb c6)) ?_;refine sk ?_;refine rk [0,1,5,6] [] hh fun h hh=>?_;exact rd m hh ⟨(dx.wrap (i+1)),H3,kq hh,rfl⟩
     refine ct (f2 hh (zAa c6)) ?_;apply dv;refine rk [4] [] hh fun h hh=>?_;cases H3;obtain rfl:=sinm H2;obtain rfl:=sinm H1;obtain rfl:=sinl H;exact rt hh
    clear hh h;rintro h bs ⟨s_3,rfl,hh,rfl⟩;replace H2:=sinr H2;cases H2;exact ce hh ⟨_,rfl,kq hh,rfl⟩
   refine ct (f2 hh (zAa c3)) ?_;apply dv;refine rk [4] [] hh fun h hh=>?_;cases H2;obtain rfl:=sinm H1;obtain rfl:=sinl H;exact rt hh
  clear hh h;rintro h bs ⟨s_2,rfl,hh,rfl⟩;replace H1:=sinr H1;refine rk [0,1,5] [] hh fun h hh=>?_;exact rd m hh ⟨(dx.wrap (k_+1)),H1,kq hh,rfl⟩
 clear hh h;rintro h bs ⟨s_,rfl,hh,rfl⟩;replace H:=sinr H;apply dv;refine rk [4] [] hh fun h hh=>?_;cases H;exact rt hh
theorem zue {α:Type} [Inhabited α] {l:List α} {i:Nat} (h:i<l.length):l.getD i default∈l:=by
  rw [eh,d6 h];exact fi h
def znr (n:Net) (k:Int):Prop:=0<=k/\k<(n.nodes.length:Int)
instance (n:Net) (k:Int):Decidable (znr n k):=by unfold znr;infer_instance
structure zoy (n:Net):Prop where
  nodes:n.nodes.length<=10
  links:n.links.length<=30
  rules:∀ k,k<n.nodes.length->0<=(n.nodes.getD k default).rules/\(n.nodes.getD k default).rules<=4000
  frm:∀ k,k<n.links.length->0<=(n.links.getD k default).frm/\(n.links.getD k default).frm<(n.nodes.length:Int)
  to:∀ k,k<n.links.length->0<=(n.links.getD k default).to/\(n.links.getD k default).to<(n.nodes.length:Int)
  apart:∀ k,k<n.links.length->(n.links.getD k default).frm≠(n.links.getD k default).to
  cap:∀ k,k<n.links.length->0<=(n.links.getD k default).cap/\(n.links.getD k default).cap<=1048576
theorem yqt (k:Nat) (s:ByteArray) (hs:s.size<9223372036854775808):∀ (m i:Nat),i<=s.size->s.size - i<m->∃ r,zfi k s m (i:Int)=some r:=by
  intro m
  induction m with
  |zero=>intro i h1 h2;omega
  |succ m ih =>
    intro i h1 h2;rw [zfi];by_cases c:(i:Int)<(s.size:Int)
    . obtain ⟨r,hr⟩:=ih (i+1) (by omega) (by omega);have g:(0:Int)<=(i:Int)/\(i:Int)<(s.size:Int):=⟨by omega,c⟩
      have A1:∃ b,(if (0:Int)<=(i:Int)/\(i:Int)<(s.size:Int) then (if 97<=((bx s (i:Int)).toNat:Int) then some (decide (((bx s (i:Int)).toNat:Int)<=122)) else some false) else none)=some b:=by
        rw [zAc g];split<;>exact ⟨_,rfl⟩
      have A2:∃ b,(if (0:Int)<=(i:Int)/\(i:Int)<(s.size:Int) then (if 48<=((bx s (i:Int)).toNat:Int) then (if ((bx s (i:Int)).toNat:Int)<=57 then some true else some (decide (((bx s (i:Int)).toNat:Int)=95))) else some (decide (((bx s (i:Int)).toNat:Int)=95))) else none)=some b:=by
        rw [zAc g];split
        . split<;>exact ⟨_,rfl⟩
        . exact ⟨_,rfl⟩
      obtain ⟨b1,h1⟩:=A1;obtain ⟨b2,h2⟩:=A2;rw [zAc c,h1,h2,zc7 i (by omega),hr];simp only [dw]
      (repeat' split)<;>exact ⟨_,rfl⟩
    . rw [zAd c];exact ⟨_,rfl⟩
theorem yly {k:Nat} (hk:9223372036854775808<=k) (s:ByteArray) (hs:s.size<9223372036854775808):∃ r,zne k s=some r:=by
  obtain ⟨r,h⟩:=yqt k s hs k 0 (by omega) (by omega);rw [show ((0:Nat):Int)=0 from rfl] at h;unfold zne;rw [h,dw]
  cases r with
  |inl b=>exact ⟨_,rfl⟩
  |inr u=>simp only [Sum.elim_inr];split<;>exact ⟨_,rfl⟩
theorem ykg (k:Nat) (l:List ByteArray) (e:Nat) (he:e<l.length) (hl:l.length<9223372036854775808):∀ (m i:Nat),i<=e->e - i<m->∃ r,zfm k l (e:Int) m (i:Int)=some r:=by
  intro m
  induction m with
  |zero=>intro i h1 h2;omega
  |succ m ih =>
    intro i h1 h2;rw [zfm];by_cases c:(i:Int)<(e:Int)
    . obtain ⟨r,hr⟩:=ih (i+1) (by omega) (by omega);rw [zAc c,zAc ⟨by omega,by omega⟩,zc7 i (by omega),hr];split<;>exact ⟨_,rfl⟩
    . rw [zAd c];exact ⟨_,rfl⟩
theorem ykh {k:Nat} (hk:9223372036854775808<=k) (l:List ByteArray) (hl:l.length<9223372036854775808) (hs:∀ s,s∈l->s.size<9223372036854775808):∀ (m i:Nat),i<=l.length->l.length - i<m->∃ r,zfn k l m (i:Int)=some r:=by
  intro m
  induction m with
  |zero=>intro i h1 h2;omega
  |succ m ih =>
    intro i h1 h2;rw [zfn];by_cases c:(i:Int)<(l.length:Int)
    . have hi:i<l.length:=by omega
      obtain ⟨r,hr⟩:=ih (i+1) (by omega) (by omega);obtain ⟨b,hb⟩:=yly hk (l.getD i default) (hs _ (zue hi));obtain ⟨r1,h1⟩:=ykg k l i hi hl k 0 (by omega) (by omega);rw [show ((0:Nat):Int)=0 from rfl] at h1;rw [zAc c,zAc ⟨by omega,c⟩,zc7 i (by omega),z46 l i,hb,h1,hr]
      cases b with
      |false=>exact ⟨_,rfl⟩
      |true=>cases r1<;>exact ⟨_,rfl⟩
    . rw [zAd c];exact ⟨_,rfl⟩
theorem z4i {k:Nat} (hk:9223372036854775808<=k) (l:List ByteArray) (hl:l.length<9223372036854775808) (hs:∀ s,s∈l->s.size<9223372036854775808):∃ r,zjn k l=some r:=by
  obtain ⟨r,h⟩:=ykh hk l hl hs k 0 (by omega) (by omega);rw [show ((0:Nat):Int)=0 from rfl] at h;unfold zjn;rw [h,dw];cases r<;>exact ⟨_,rfl⟩
theorem ylx (k:Nat) (n:Net) (hn:n.nodes.length<=1000) (hs:∀ x,x∈n.nodes->x.name.size<9223372036854775808):∀ (m i:Nat) (l:List ByteArray),i<=n.nodes.length->n.nodes.length - i<m->l.length=i->(∀ s,s∈l->s.size<9223372036854775808) ->
    ∃ l',zfp k n m (i:Int) l i=some (l',l'.length)/\l'.length=n.nodes.length/\∀ s,s∈l'->s.size<9223372036854775808:=by
  intro m
  induction m with
  |zero=>intro i l h1 h2;omega
  |succ m ih =>
    intro i l h1 h2 h3 h4;rw [zfp];by_cases c:(i:Int)<(n.nodes.length:Int)
    . have hi:i<n.nodes.length:=by omega
      rw [zAc c,zAc ⟨by omega,c⟩,zAc (by omega),zc7 i (by omega),z46 n.nodes i];refine ih (i+1) _ (by omega) (by omega) (by simp [h3]) fun s hm=>?_;rcases List.mem_append.1 hm with q|q
      . exact h4 s q
      . simp only [lc] at q;subst q;exact hs _ (zue hi)
    . rw [zAd c];exact ⟨l,by rw [h3],by omega,h4⟩
theorem ylw (k:Nat) (n:Net) (hn:n.edges.length<=1000) (hs:∀ x,x∈n.edges->x.name.size<9223372036854775808):∀ (m i:Nat) (l:List ByteArray),i<=n.edges.length->n.edges.length - i<m->l.length=i->(∀ s,s∈l->s.size<9223372036854775808) ->
    ∃ l',zfo k n m (i:Int) l i=some (l',l'.length)/\l'.length=n.edges.length/\∀ s,s∈l'->s.size<9223372036854775808:=by
  intro m
  induction m with
  |zero=>intro i l h1 h2;omega
  |succ m ih =>
    intro i l h1 h2 h3 h4;rw [zfo];by_cases c:(i:Int)<(n.edges.length:Int)
    . have hi:i<n.edges.length:=by omega
      rw [zAc c,zAc ⟨by omega,c⟩,zAc (by omega),zc7 i (by omega),z46 n.edges i];refine ih (i+1) _ (by omega) (by omega) (by simp [h3]) fun s hm=>?_;rcases List.mem_append.1 hm with q|q
      . exact h4 s q
      . simp only [lc] at q;subst q;exact hs _ (zue hi)
    . rw [zAd c];exact ⟨l,by rw [h3],by omega,h4⟩
theorem zns {k:Nat} {n:Net} (v:Int):zhi k n v=some (decide (znr n v)):=by
  unfold zhi znr;by_cases h:0<=v
  . rw [zAc h];simp [h]
  . rw [zAd h];simp [h]
def yjo (x:Node):Prop:=0<=x.rules/\x.rules<=4000
theorem yta (k:Nat) (n:Net) (hn:n.nodes.length<=1000):∀ (m i:Nat),i<=n.nodes.length->n.nodes.length - i<m->(∀ j,j<i->yjo (n.nodes.getD j default))->∃ r,zfs k n m (i:Int)=some r/\((r=.inr ()/\∀ j,j<n.nodes.length->yjo (n.nodes.getD j default))\/r=.inl 1):=by
  intro m
  induction m with
  |zero=>intro i h1 h2;omega
  |succ m ih =>
    intro i h1 h2 hi;rw [zfs];by_cases c:(i:Int)<(n.nodes.length:Int)
    . by_cases q:yjo (n.nodes.getD i default)
      . obtain ⟨r,hr,hq⟩:=ih (i+1) (by omega) (by omega) (fun j hj=>by
          rcases Nat.lt_or_ge j i with w|w
          . exact hi j w
          . rw [show j=i by omega];exact q)
        rw [zAc c,zAc ⟨by omega,c⟩,zc7 i (by omega),hr]
        (repeat' split)<;>first|exact ⟨_,rfl,.inr rfl⟩|exact ⟨_,rfl,hq⟩
      . rw [zAc c,zAc ⟨by omega,c⟩];have q':¬ (0<=(gx n.nodes (i:Int)).rules/\(gx n.nodes (i:Int)).rules<=4000):=q;by_cases q1:(gx n.nodes (i:Int)).rules<0
        . rw [zAc q1];exact ⟨_,rfl,.inr rfl⟩
        . rw [zAd q1,zAc (by omega)];exact ⟨_,rfl,.inr rfl⟩
    . rw [zAd c];exact ⟨_,rfl,.inl ⟨rfl,fun j hj=>hi j (by omega)⟩⟩
def yo0 (n:Net) (l:Link):Prop:=znr n l.frm/\znr n l.to/\l.frm≠l.to/\0<=l.cap/\l.cap<=1048576
theorem ys9 (k:Nat) (n:Net) (hn:n.links.length<=10000):∀ (m i:Nat),i<=n.links.length->n.links.length - i<m->(∀ j,j<i->yo0 n (n.links.getD j default))->∃ r,zfr k n m (i:Int)=some r/\((r=.inr ()/\∀ j,j<n.links.length->yo0 n (n.links.getD j default))\/r=.inl 1):=by
  intro m
  induction m with
  |zero=>intro i h1 h2;omega
  |succ m ih =>
    intro i h1 h2 h3;rw [zfr];by_cases c:(i:Int)<(n.links.length:Int)
    . have hi:i<n.links.length:=by omega
      rw [zAc c,zAc ⟨by omega,c⟩,zc7 i (by omega),z46 n.links i,zns,zns,dw,dw];by_cases q1:znr n (n.links.getD i default).frm
      . rw [zAc (zAa q1)];by_cases q2:znr n (n.links.getD i default).to
        . rw [zAc (zAa q2)];by_cases q3:(n.links.getD i default).frm=(n.links.getD i default).to
          . rw [zAc q3];exact ⟨_,rfl,.inr rfl⟩
          . rw [zAd q3];by_cases q4:(n.links.getD i default).cap<0
            . rw [zAc q4];exact ⟨_,rfl,.inr rfl⟩
            . rw [zAd q4];by_cases q5:1048576<(n.links.getD i default).cap
              . rw [zAc q5];exact ⟨_,rfl,.inr rfl⟩
              . rw [zAd q5];exact ih (i+1) (by omega) (by omega) fun j hj=>by rcases Nat.lt_succ_iff_lt_or_eq.1 hj with q|q;exact h3 j q;rw [q];exact ⟨q1,q2,q3,by omega,by omega⟩
        . rw [zAd (by simpa using q2)];exact ⟨_,rfl,.inr rfl⟩
      . rw [zAd (by simpa using q1)];exact ⟨_,rfl,.inr rfl⟩
    . rw [zAd c];exact ⟨_,rfl,.inl ⟨rfl,fun j hj=>h3 j (by omega)⟩⟩
theorem ys8 (k:Nat) (n:Net) (hn:n.edges.length<=1000):∀ (m i:Nat),i<=n.edges.length->n.edges.length - i<m->∃ r,zfq k n m (i:Int)=some r/\(r=.inr ()\/r=.inl 1):=by
  intro m
  induction m with
  |zero=>intro i h1 h2;omega
  |succ m ih =>
    intro i h1 h2;rw [zfq];by_cases c:(i:Int)<(n.edges.length:Int)
    . obtain ⟨r,hr,hq⟩:=ih (i+1) (by omega) (by omega);rw [zAc c,zAc ⟨by omega,c⟩,zc7 i (by omega),hr,zns,dw];split
      . exact ⟨_,rfl,hq⟩
      . exact ⟨_,rfl,.inr rfl⟩
    . rw [zAd c];exact ⟨_,rfl,.inl rfl⟩
structure Held (n:Net):Prop where
  nodes:∀ x,x∈n.nodes->x.name.size<9223372036854775808
  edges:∀ x,x∈n.edges->x.name.size<9223372036854775808
theorem ylz {k:Nat} (hk:9223372036854775808<=k) (n:Net) (h1:n.nodes.length<=10) (h2:n.links.length<=30) (h3:n.edges.length<=20) (hh:Held n):∃ r,zlk k n=some r/\(r=0->zoy n):=by
  unfold zlk;rw [zAd (by omega),zAd (by omega),dw,zAd (by simp only [decide_eq_true_eq];omega)];obtain ⟨l1,a1,a2,a3⟩:=ylx k n (by omega) hh.nodes k 0 [] (by omega) (by omega) rfl (fun s hs=>by simp at hs);obtain ⟨l2,b1,b2,b3⟩:=ylw k n (by omega) hh.edges k 0 [] (by omega) (by omega) rfl (fun s hs=>by simp at hs);obtain ⟨r1,c1⟩:=z4i hk l1 (by omega) a3;obtain ⟨r2,c2⟩:=z4i hk l2 (by omega) b3;obtain ⟨d1,e1,g1⟩:=yta k n (by omega) k 0 (by omega) (by omega) (fun j hj=>by omega);obtain ⟨d2,e2,g2⟩:=ys9 k n (by omega) k 0 (by omega) (by omega) (fun j hj=>by omega);obtain ⟨d3,e3,g3⟩:=ys8 k n (by omega) k 0 (by omega) (by omega);rw [show ((0:Nat):Int)=0 from rfl] at a1 b1 e1 e2 e3
  have hN:zlj k n=some (l1,l2):=by
    unfold zlj;rw [a1,b1];simp
  rw [hN,dw];simp only [c1,c2,dw,e1,e2,e3]
  cases r1 with
  |false=>exact ⟨4,rfl,fun h=>by simp at h⟩
  |true =>
    cases r2 with
    |false=>exact ⟨4,rfl,fun h=>by simp at h⟩
    |true =>
      rcases g1 with ⟨rfl,hnod⟩|rfl
      . rcases g2 with ⟨rfl,hall⟩|rfl
        . have hR:zoy n:=⟨h1,h2,hnod,fun j hj=>(hall j hj).1,fun j hj=>(hall j hj).2.1,fun j hj=>(hall j hj).2.2.1,fun j hj=>(hall j hj).2.2.2⟩;rcases g3 with rfl|rfl
          . exact ⟨0,rfl,fun _=>hR⟩
          . exact ⟨1,rfl,fun h=>by simp at h⟩
        . exact ⟨1,rfl,fun h=>by simp at h⟩
      . exact ⟨1,rfl,fun h=>by simp at h⟩
def ygw (t:List Rule) (j:Int):Int:=if j=0 then 65536 else (gx t (j - 1)).prio
def znw (n:Net) (steps:Int) (t:List Rule) (j:Nat):Bool:=zj9 n steps (t.getD j default) && decide ((t.getD j default).prio<ygw t j)
def zm4 (n:Net) (steps:Int) (t:List Rule):Int×Int :=
  if steps<0\/1000<steps then (0,1) else if 4000<t.length then (0,2) else
  match (iz t.length).findSome? (fun j=>if znw n steps t j=true then none else some ((j:Int),(1:Int))) with
  |some r=>r
  |none=>(0,0)
theorem yfp {k:Nat} (n:Net) (steps:Int) (t:List Rule) (ht:z4e t) (hk:big<=k):zli k n steps t=some (zm4 n steps t):=by
  unfold zli zm4
  have hloop:zdi k n steps t k 0=some (sumO ((iz t.length).findSome? (fun j=>if znw n steps t j=true then none else some ((j:Int),(1:Int))))):=by
    refine zol (L:=zdi k n steps t) t.length _ ht.1 (fun m j h=>?_) (fun m=>by rw [zdi,zAd (by omega)]) (fb ht.1 hk);have hb:j<9223372036854775808:=by have:=ht.1;simp only [big] at this;omega
    rw [zdi,zAc (zae h),zAc ⟨by omega,zae h⟩,zbz h,ycm n steps _ (ht.2 _ (fi h)) hk,dw]
    have hg:znw n steps t j=(zj9 n steps t[j] && decide (t[j].prio<ygw t j)):=by
      unfold znw;rw [eh,d6 h];rfl
    rw [hg]
    cases hf:zj9 n steps t[j] with
    |false=>rfl
    |true =>
      simp only [if_true,jn,decide_eq_true_eq];unfold ygw;by_cases c0:0<(j:Int)
      . have e1:dx.wrap ((j:Int) - 1)=((j - 1:Nat):Int):=by rw [wr64 (by omega)];omega
        have e2:(j:Int) - 1=((j - 1:Nat):Int):=by omega
        have h2:j - 1<t.length:=by omega
        rw [zAc c0,e1,zAc ⟨by omega,by omega⟩,zAd (show ¬ (j:Int)=0 by omega),e2,zbz h2];by_cases c:t[j - 1].prio<=t[j].prio
        . rw [zAc c,zAd (by omega)]
        . rw [zAd c,zAc (by omega)]
      . have hp:t[j].prio<=65535:=by
          unfold zj9 at hf;simp only [Bool.and_eq_true,decide_eq_true_eq] at hf;exact hf.1.2
        rw [zAd c0,zAc (show (j:Int)=0 by omega),zAc (by omega)]
  rw [hloop];by_cases c1:steps<0
  . rw [zAc c1,zAc (show steps<0\/1000<steps from .inl c1)];rfl
  . rw [zAd c1];by_cases c2:1000<steps
    . rw [zAa c2,zAc (show steps<0\/1000<steps from .inr c2)];rfl
    . rw [zAb c2,zAd (show ¬ (steps<0\/1000<steps) by omega),dw];simp only [oc,if_false];by_cases c3:4000<t.length
      . rw [zAc (by omega),zAc c3]
      . rw [zAd (by omega),zAd c3,dw];cases (iz t.length).findSome? _<;>rfl
def fewT (t:List Rule) (most:Int):Bool:=t.all (fun r=>decide (r.outs.length<=20) && r.outs.all fun l=>decide (l.length<=10)) && decide ((t.length:Int)<=most)
theorem ypi {k:Nat} (t:List Rule) (most:Int) (ht:z4e t) (hk:big<=k):zqa k t most=some (fewT t most):=by
  unfold zqa fewT
  rw [zom (L:=zgg k t) t false (fun r=>decide (r.outs.length<=20) && r.outs.all fun l=>decide (l.length<=10)) ht.1 (fun m j h=>by
    rw [zgg,zAc (zae h),zAc ⟨by omega,zae h⟩,zbz h];by_cases c:20<(t[j].outs.length:Int)
    . rw [zAc c,zAb (by omega)];rfl
    . rw [zAd c,zAa (by omega)];have hr:=(ht.2 _ (fi h)).1
      rw [zom (L:=zgf k t (j:Int)) t[j].outs false (fun l=>decide (l.length<=10)) hr (fun m i hi=>by
        rw [zgf,zbz h,zAc (zae hi),zAc ⟨by omega,zae hi⟩,zbz hi];by_cases d:10<(t[j].outs[i].length:Int)
        . rw [zAc d,zAb (by omega)];rfl
        . rw [zAd d,zAa (by omega)];rfl) (fun m=>by rw [zgf,zbz h,zAd (by omega)]) (fb hr hk),dw]
      simp only [jn]
      cases t[j].outs.all _<;>rfl) (fun m=>by rw [zgg,zAd (by omega)]) (fb ht.1 hk),dw]
  cases t.all _<;>rfl
def zem (k:Nat) (n:Net) (c:zam):Nat->Int->Option (Bool ⊕ Unit)
 |0,_=>none
 |m+1,i=>(if i<(c.tables.length:Int) then (if 0<=i/\i<(c.tables.length:Int) then ((zli k n (c.steps.length:Int) (gx c.tables i)).bind fun aq=>(if aq.2≠0 then some (.inl false) else zem k n c m (dx.wrap (i+1)))) else none) else some (.inr ()))
def zjl (k:Nat) (n:Net) (c:zam):Option Bool:=(((if (c.tables.length:Int)≠(n.nodes.length:Int) then some true else some (decide (1000<(c.steps.length:Int)))):Option Bool).bind fun s_=>(if s_=true then some false else ((zem k n c k 0:Option (Bool ⊕ Unit)).bind fun o=>il (fun r=>some r) (fun s_2=>some true) o)))
theorem zp9 (ax:Axs) (hx:NoAx ax) (k:Nat) (n:Net) (c:zam) (v:Bool) (H:zjl k n c=some v):Pure Tryz.prog (EE ax) [] 11 [eNet n,zds c] (.bool v):=by
 rw [zjl] at H;refine en [.tmp 4] 43 [0,1] (hx.no _ (by decide)) (fn11 ax) ?_;intro h hh;apply dv;refine rk [2,3] [] hh fun h hh=>?_;obtain ⟨s_,H1,H⟩:=zad H;repeat apply dv
 refine cu [2,3,20] 2 (fun h bs=>(h 2=.ptr 0 0 3/\h 3=.ptr 1 0 3/\h 20=.bool s_)/\bs=[.cells true 3 [zau n.nodes,zav n.links,zaw n.edges],.cells true 3 [.int .i64 c.version,zak c.tables,zah c.steps]]) ?_ ?_
 .skip;rcases isp H1 with ⟨c1,H1⟩|⟨c1,H1⟩;rotate_left
  .skip;refine rk [2,3,20] [] (f2 hh (zAb c1)) fun h hh=>?_;cases H1;exact ce hh ⟨kq hh,rfl⟩
  refine rk [2,3,20] [] (f2 hh (zAa c1)) fun h hh=>?_;cases H1;exact ce hh ⟨kq hh,rfl⟩
 clear hh h;rintro h bs ⟨hh,rfl⟩;rcases isb H with ⟨c2,H⟩|⟨c2,H⟩;rotate_left
 .skip;refine cf (f2 hh c2) ?_;refine sk ?_;repeat apply dv
  refine rk [2,3,5] [] (f2 hh c2) fun h hh=>?_;obtain ⟨o,H1,H⟩:=zad H;refine cu [] 2 (fun h bs=>∃ s_2:Unit,o=.inr s_2/\(True)/\bs=[.cells true 3 [zau n.nodes,zav n.links,zaw n.edges],.cells true 3 [.int .i64 c.version,zak c.tables,zah c.steps]]) ?_ ?_
  .skip;apply ey;refine gt [2,3,5] (fun m h bs=>∃ (i:Int),zem k n c m i=some o/\(h 2=.ptr 0 0 3/\h 3=.ptr 1 0 3/\h 5=.int .i64 i)/\bs=[.cells true 3 [zau n.nodes,zav n.links,zaw n.edges],.cells true 3 [.int .i64 c.version,zak c.tables,zah c.steps]]) ?_ k _ _ ?_;rotate_left
   .exact ⟨0,H1,kq hh,rfl⟩
   clear hh h H1;rintro m h bs ⟨i,H1,hh,rfl⟩;rcases m with _|m
   .rw [zem] at H1;cases H1
   rw [zem] at H1;repeat apply dv
   refine rk [2,3,5,25] [] (f2 hh c2) fun h hh=>?_;rcases isp H1 with ⟨c3,H1⟩|⟨c3,H1⟩;rotate_left
   .skip;refine cf (f2 hh (zAb c3)) ?_;refine xk ?_;cases H1;exact ce hh ⟨_,rfl,kq hh,rfl⟩
   refine ct (f2 hh (zAa c3)) ?_;refine sk ?_;apply dv;apply ey;obtain ⟨g4,H1⟩:=isg H1;obtain ⟨aq,e5,H1⟩:=zad H1;apply dv;refine dk 9 [2,3,5,7] [] [] [(.tup [.int .i64 aq.1,.int .i64 aq.2],stL [.cells true 3 [zau n.nodes,zav n.links,zaw n.edges],.cells true 3 [.int .i64 c.version,zak c.tables,zah c.steps]])] (f3 hh c2 (zaf g4)) trivial ?_ ?_
   .exact ⟨fc (f6 (z1c ax hx k n (c.steps.length:Int) (gx c.tables i) aq e5 ) (by first|rfl|simp only [c2])),trivial⟩
   clear hh h;intro h hh;apply dv;refine rk [2,3,5,42] [] (f2 hh c2) fun h hh=>?_;rcases isp H1 with ⟨c6,H1⟩|⟨c6,H1⟩;rotate_left
   .skip;refine cf (f2 hh (zAb c6)) ?_;refine sk ?_;refine rk [2,3,5] [] (f2 hh c2) fun h hh=>?_;exact rd m hh ⟨(dx.wrap (i+1)),H1,kq hh,rfl⟩
   refine ct (f2 hh (zAa c6)) ?_;apply dv;refine rk [4] [] (f2 hh c2) fun h hh=>?_;cases H1;obtain rfl:=sinl H;exact rt hh
  clear hh h;rintro h bs ⟨s_2,rfl,hh,rfl⟩;replace H:=sinr H;apply dv;refine rk [4] [] (f2 hh c2) fun h hh=>?_;cases H;exact rt hh
 refine ct (f2 hh c2) ?_;apply dv;refine rk [4] [] (f2 hh c2) fun h hh=>?_;cases H;exact rt hh
def zbh (k:Nat) (s1:List ByteArray) (s2:List ByteArray):Nat->Int->Option (Bool ⊕ Unit)
 |0,_=>none
 |m+1,i=>(if i<(s1.length:Int) then (if 0<=i/\i<(s1.length:Int) then (if 0<=i/\i<(s2.length:Int) then (if (gx s1 i)=(gx s2 i) then zbh k s1 s2 m (dx.wrap (i+1)) else some (.inl false)) else none) else none) else some (.inr ()))
def zdt (k:Nat) (s1:List ByteArray) (s2:List ByteArray):Option Bool:=(if (s1.length:Int)≠(s2.length:Int) then some false else ((zbh k s1 s2 k 0:Option (Bool ⊕ Unit)).bind fun o=>il (fun r=>some r) (fun s_=>some true) o))
theorem zme (ax:Axs) (hx:NoAx ax) (k:Nat) (s1:List ByteArray) (s2:List ByteArray) (v:Bool) (H:zdt k s1 s2=some v):Pure Tryz.prog (EE ax) [] 45 [strs s1,strs s2] (.bool v):=by
 rw [zdt] at H;refine en [.tmp 4] 26 [0,1] (hx.no _ (by decide)) (fn45 ax) ?_;intro h hh;apply dv;refine rk [0,1] [] hh fun h hh=>?_;repeat apply dv
 refine rk [0,1,10] [] hh fun h hh=>?_;rcases isp H with ⟨c1,H⟩|⟨c1,H⟩;rotate_left
 .skip;refine cf (f2 hh (zAb c1)) ?_;refine sk ?_;repeat apply dv
  refine rk [0,1,12,13] [] hh fun h hh=>?_;obtain ⟨o,H1,H⟩:=zad H;refine cu [] 0 (fun h bs=>∃ s_:Unit,o=.inr s_/\(True)/\bs=[]) ?_ ?_
  .skip;apply ey;refine gt [0,1,12,13] (fun m h bs=>∃ (i:Int),zbh k s1 s2 m i=some o/\(h 0=strs s1/\h 1=strs s2/\h 12=.int .i64 (s1.length:Int)/\h 13=.int .i64 i)/\bs=[]) ?_ k _ _ ?_;rotate_left
   .exact ⟨0,H1,kq hh,rfl⟩
   clear hh h H1;rintro m h bs ⟨i,H1,hh,rfl⟩;rcases m with _|m
   .rw [zbh] at H1;cases H1
   rw [zbh] at H1;apply dv;refine rk [0,1,12,13,14] [] hh fun h hh=>?_;rcases isp H1 with ⟨c2,H1⟩|⟨c2,H1⟩;rotate_left
   .skip;apply dv;refine cf (f2 hh (zAb c2)) ?_;refine xk ?_;cases H1;exact ce hh ⟨_,rfl,kq hh,rfl⟩
   apply dv;refine ct (f2 hh (zAa c2)) ?_;refine sk ?_;apply dv;apply ey;apply dv;refine rk [0,1,5,12,13] [] hh fun h hh=>?_;obtain ⟨g3,H1⟩:=isg H1;obtain ⟨g4,H1⟩:=isg H1;apply dv;refine dk 8 [0,1,12,13,24] [] [] [] (f3 hh (zaf g3) (zaf g4)) trivial trivial fun h hh=>?_;rcases isp H1 with ⟨c5,H1⟩|⟨c5,H1⟩;rotate_left
   .skip;refine ct (f2 hh (zAb c5)) ?_;apply dv;refine rk [4] [] hh fun h hh=>?_;cases H1;obtain rfl:=sinl H;exact rt hh
   refine cf (f2 hh (zAa c5)) ?_;refine sk ?_;refine rk [0,1,12,13] [] hh fun h hh=>?_;exact rd m hh ⟨(dx.wrap (i+1)),H1,kq hh,rfl⟩
  clear hh h;rintro h bs ⟨s_,rfl,hh,rfl⟩;replace H:=sinr H;apply dv;refine rk [4] [] hh fun h hh=>?_;cases H;exact rt hh
 refine ct (f2 hh (zAa c1)) ?_;apply dv;refine rk [4] [] hh fun h hh=>?_;cases H;exact rt hh
def zie (k:Nat) (a:zc1) (b:zc1):Option Bool:=(if a.kind=b.kind then (if a.var=b.var then (if a.field=b.field then (if a.n=b.n then (if a.m=b.m then ((zdt k a.key b.key).bind fun dh=>some dh) else some false) else some false) else some false) else some false) else some false)
theorem zpa (ax:Axs) (hx:NoAx ax) (k:Nat) (a:zc1) (b:zc1) (v:Bool) (H:zie k a b=some v):Pure Tryz.prog (EE ax) [] 44 [zht a,zht b] (.bool v):=by
 rw [zie] at H;refine en [.tmp 4] 45 [0,1] (hx.no _ (by decide)) (fn44 ax) ?_;intro h hh;apply dv;refine rk [2,3] [] hh fun h hh=>?_;rcases isp H with ⟨c1,H⟩|⟨c1,H⟩;rotate_left
 .skip;apply dv;refine rk [4] [] (f2 hh (zAb c1)) fun h hh=>?_;cases H;exact rt hh
 rcases isp H with ⟨c2,H⟩|⟨c2,H⟩;rotate_left
 .skip;apply dv;refine rk [4] [] (f3 hh (zAa c1) (zAb c2)) fun h hh=>?_;cases H;exact rt hh
 rcases isp H with ⟨c3,H⟩|⟨c3,H⟩;rotate_left
 .skip;apply dv;refine rk [4] [] (f3 hh (zAa c1) (f2 (zAa c2) (zAb c3))) fun h hh=>?_;cases H;exact rt hh
 rcases isp H with ⟨c4,H⟩|⟨c4,H⟩;rotate_left
 .skip;apply dv;refine rk [4] [] (f3 hh (zAa c1) (f3 (zAa c2) (zAa c3) (zAb c4))) fun h hh=>?_;cases H;exact rt hh
 rcases isp H with ⟨c5,H⟩|⟨c5,H⟩;rotate_left
 .skip;apply dv;refine rk [4] [] (f3 hh (zAa c1) (f3 (zAa c2) (zAa c3) (f2 (zAa c4) (zAb c5)))) fun h hh=>?_;cases H;exact rt hh
 obtain ⟨dh,e6,H⟩:=zad H;apply dv;refine rkp [4] [] [.bool dh] (f3 hh (zAa c1) (f3 (zAa c2) (zAa c3) (f2 (zAa c4) (zAa c5)))) ?_ ?_
 .exact ⟨fc ((zme ax hx k a.key b.key dh e6 ).call _),trivial⟩
 clear hh h;intro h hh;cases H;exact rt hh
def zax (k:Nat) (s1:List (List Rule)) (s2:List (List Rule)) (eq:(List Rule)->(List Rule)->Option Bool):Nat->Int->Option (Bool ⊕ Unit)
 |0,_=>none
 |m+1,i=>(if i<(s1.length:Int) then (if 0<=i/\i<(s1.length:Int) then (if 0<=i/\i<(s2.length:Int) then ((eq (gx s1 i) (gx s2 i)).bind fun r=>(if r=true then zax k s1 s2 eq m (dx.wrap (i+1)) else some (.inl false))) else none) else none) else some (.inr ()))
def zcx (k:Nat) (s1:List (List Rule)) (s2:List (List Rule)) (eq:(List Rule)->(List Rule)->Option Bool):Option Bool:=(if (s1.length:Int)≠(s2.length:Int) then some false else ((zax k s1 s2 eq k 0:Option (Bool ⊕ Unit)).bind fun o=>il (fun r=>some r) (fun s_=>some true) o))
theorem zgu (ax:Axs) (hx:NoAx ax) (k:Nat) (s1:List (List Rule)) (s2:List (List Rule)) (eq:(List Rule)->(List Rule)->Option Bool) (v:Bool) (H:zcx k s1 s2 eq=some v) (eq_f:Nat) (eq_c:List T) (eq_i:ir 0 eq_c=true) (eq_h:∀ (y0:List Rule) (y1:List Rule) (w:Bool),eq y0 y1=some w->Pure Tryz.prog (EE ax) [] eq_f ([]++[zag y0,zag y1]++eq_c) (.bool w)):Pure Tryz.prog (EE ax) [] 46 [zak s1,zak s2,.fn eq_f [] eq_c] (.bool v):=by
 rw [zcx] at H;refine en (ha:=by simp only [zbw,zct,idsA,idsB,idsC,eq_i,ef]) [.tmp 6] 32 [0,1,2] (hx.no _ (by decide)) (fn46 ax) ?_;intro h hh;apply dv;refine rk [0,1,2] [] hh fun h hh=>?_;repeat apply dv
 refine rk [0,1,2,14] [] hh fun h hh=>?_;rcases isp H with ⟨c1,H⟩|⟨c1,H⟩;rotate_left
 .skip;refine cf (f2 hh (zAb c1)) ?_;refine sk ?_;repeat apply dv
  refine rk [1,2,15,16,17] [] hh fun h hh=>?_;obtain ⟨o,H1,H⟩:=zad H;refine cu [] 0 (fun h bs=>∃ s_:Unit,o=.inr s_/\(True)/\bs=[]) ?_ ?_
  .skip;apply ey;refine gt [1,2,15,16,17] (fun m h bs=>∃ (i:Int),zax k s1 s2 eq m i=some o/\(h 1=zak s2/\h 2=.fn eq_f [] eq_c/\h 15=zak s1/\h 16=.int .i64 (s1.length:Int)/\h 17=.int .i64 i)/\bs=[]) ?_ k _ _ ?_;rotate_left
   .exact ⟨0,H1,kq hh,rfl⟩
   clear hh h H1;rintro m h bs ⟨i,H1,hh,rfl⟩;rcases m with _|m
   .rw [zax] at H1;cases H1
   rw [zax] at H1;apply dv;refine rk [1,2,15,16,17,18] [] hh fun h hh=>?_;rcases isp H1 with ⟨c2,H1⟩|⟨c2,H1⟩;rotate_left
   .skip;apply dv;refine cf (f2 hh (zAb c2)) ?_;refine xk ?_;cases H1;exact ce (f2 hh ((fun m=>zch (ft m) eq_i))) ⟨_,rfl,kq hh,rfl⟩
   apply dv;refine ct (f2 hh (zAa c2)) ?_;refine sk ?_;apply dv;apply ey;obtain ⟨g3,H1⟩:=isg H1;apply dv;refine rk [1,2,7,8,15,16,17] [] (f2 hh (zaf g3)) fun h hh=>?_;obtain ⟨g4,H1⟩:=isg H1;apply dv;refine rk [1,2,8,9,15,16,17] [] (f2 hh (zaf g4)) fun h hh=>?_;obtain ⟨r,e5,H1⟩:=zad H1;apply dv;refine rkp [1,2,15,16,17,30] [] [.bool r] hh ?_ ?_
   .exact ⟨fc ((eq_h (gx s1 i) (gx s2 i) r e5).call _),trivial⟩
   clear hh h;intro h hh;rcases isb H1 with ⟨c6,H1⟩|⟨c6,H1⟩;rotate_left
   .skip;refine ct (f2 hh c6) ?_;apply dv;refine rk [6] [] (f2 hh c6) fun h hh=>?_;cases H1;obtain rfl:=sinl H;exact rt hh
   refine cf (f2 hh c6) ?_;refine sk ?_;refine rk [1,2,15,16,17] [] (f2 hh c6) fun h hh=>?_;exact rd m (f2 hh ((fun m=>zch (ft m) eq_i))) ⟨(dx.wrap (i+1)),H1,kq hh,rfl⟩
  clear hh h;rintro h bs ⟨s_,rfl,hh,rfl⟩;replace H:=sinr H;apply dv;refine rk [6] [] hh fun h hh=>?_;cases H;exact rt hh
 refine ct (f2 hh (zAa c1)) ?_;apply dv;refine rk [6] [] hh fun h hh=>?_;cases H;exact rt hh
def za2 (k:Nat) (s1:List zc1) (s2:List zc1) (eq:zc1->zc1->Option Bool):Nat->Int->Option (Bool ⊕ Unit)
 |0,_=>none
 |m+1,i=>(if i<(s1.length:Int) then (if 0<=i/\i<(s1.length:Int) then (if 0<=i/\i<(s2.length:Int) then ((eq (gx s1 i) (gx s2 i)).bind fun r=>(if r=true then za2 k s1 s2 eq m (dx.wrap (i+1)) else some (.inl false))) else none) else none) else some (.inr ()))
def zdb (k:Nat) (s1:List zc1) (s2:List zc1) (eq:zc1->zc1->Option Bool):Option Bool:=(if (s1.length:Int)≠(s2.length:Int) then some false else ((za2 k s1 s2 eq k 0:Option (Bool ⊕ Unit)).bind fun o=>il (fun r=>some r) (fun s_=>some true) o))
theorem zkz (ax:Axs) (hx:NoAx ax) (k:Nat) (s1:List zc1) (s2:List zc1) (eq:zc1->zc1->Option Bool) (v:Bool) (H:zdb k s1 s2 eq=some v) (eq_f:Nat) (eq_c:List T) (eq_i:ir 0 eq_c=true) (eq_h:∀ (y0:zc1) (y1:zc1) (w:Bool),eq y0 y1=some w->Pure Tryz.prog (EE ax) [] eq_f ([]++[zht y0,zht y1]++eq_c) (.bool w)):Pure Tryz.prog (EE ax) [] 48 [zah s1,zah s2,.fn eq_f [] eq_c] (.bool v):=by
 rw [zdb] at H;refine en (ha:=by simp only [zbw,zct,idsA,idsB,idsC,eq_i,ef]) [.tmp 6] 32 [0,1,2] (hx.no _ (by decide)) (fn48 ax) ?_;intro h hh;apply dv;refine rk [0,1,2] [] hh fun h hh=>?_;repeat apply dv
 refine rk [0,1,2,14] [] hh fun h hh=>?_;rcases isp H with ⟨c1,H⟩|⟨c1,H⟩;rotate_left
 .skip;refine cf (f2 hh (zAb c1)) ?_;refine sk ?_;repeat apply dv
  refine rk [1,2,15,16,17] [] hh fun h hh=>?_;obtain ⟨o,H1,H⟩:=zad H;refine cu [] 0 (fun h bs=>∃ s_:Unit,o=.inr s_/\(True)/\bs=[]) ?_ ?_
  .skip;apply ey;refine gt [1,2,15,16,17] (fun m h bs=>∃ (i:Int),za2 k s1 s2 eq m i=some o/\(h 1=zah s2/\h 2=.fn eq_f [] eq_c/\h 15=zah s1/\h 16=.int .i64 (s1.length:Int)/\h 17=.int .i64 i)/\bs=[]) ?_ k _ _ ?_;rotate_left
   .exact ⟨0,H1,kq hh,rfl⟩
   clear hh h H1;rintro m h bs ⟨i,H1,hh,rfl⟩;rcases m with _|m
   .rw [za2] at H1;cases H1
   rw [za2] at H1;apply dv;refine rk [1,2,15,16,17,18] [] hh fun h hh=>?_;rcases isp H1 with ⟨c2,H1⟩|⟨c2,H1⟩;rotate_left
   .skip;apply dv;refine cf (f2 hh (zAb c2)) ?_;refine xk ?_;cases H1;exact ce (f2 hh ((fun m=>zch (ft m) eq_i))) ⟨_,rfl,kq hh,rfl⟩
   apply dv;refine ct (f2 hh (zAa c2)) ?_;refine sk ?_;apply dv;apply ey;obtain ⟨g3,H1⟩:=isg H1;apply dv;refine rk [1,2,7,8,15,16,17] [] (f2 hh (zaf g3)) fun h hh=>?_;obtain ⟨g4,H1⟩:=isg H1;apply dv;refine rk [1,2,8,9,15,16,17] [] (f2 hh (zaf g4)) fun h hh=>?_;obtain ⟨r,e5,H1⟩:=zad H1;apply dv;refine rkp [1,2,15,16,17,30] [] [.bool r] hh ?_ ?_
   .exact ⟨fc ((eq_h (gx s1 i) (gx s2 i) r e5).call _),trivial⟩
   clear hh h;intro h hh;rcases isb H1 with ⟨c6,H1⟩|⟨c6,H1⟩;rotate_left
   .skip;refine ct (f2 hh c6) ?_;apply dv;refine rk [6] [] (f2 hh c6) fun h hh=>?_;cases H1;obtain rfl:=sinl H;exact rt hh
   refine cf (f2 hh c6) ?_;refine sk ?_;refine rk [1,2,15,16,17] [] (f2 hh c6) fun h hh=>?_;exact rd m (f2 hh ((fun m=>zch (ft m) eq_i))) ⟨(dx.wrap (i+1)),H1,kq hh,rfl⟩
  clear hh h;rintro h bs ⟨s_,rfl,hh,rfl⟩;replace H:=sinr H;apply dv;refine rk [6] [] hh fun h hh=>?_;cases H;exact rt hh
 refine ct (f2 hh (zAa c1)) ?_;apply dv;refine rk [6] [] hh fun h hh=>?_;cases H;exact rt hh
def zls (k:Nat) (c:zam) (d:zam):Option Bool:=(if c.version=d.version then ((zcx k c.tables d.tables (fun y y2=>zhg k y y2)).bind fun cd=>(if cd=true then ((zdb k c.steps d.steps (fun y3 y4=>zie k y3 y4)).bind fun di=>some di) else some false)) else some false)
theorem z3i (ax:Axs) (hx:NoAx ax) (k:Nat) (c:zam) (d:zam) (v:Bool) (H:zls k c d=some v):Pure Tryz.prog (EE ax) [] 12 [zds c,zds d] (.bool v):=by
 rw [zls] at H;refine en [.tmp 4] 26 [0,1] (hx.no _ (by decide)) (fn12 ax) ?_;intro h hh;apply dv;refine rk [2,3] [] hh fun h hh=>?_;apply dv;refine rk [2,3,5] [] hh fun h hh=>?_;rcases isp H with ⟨c1,H⟩|⟨c1,H⟩;rotate_left
 .skip;apply dv;refine rk [4] [] (f2 hh (zAb c1)) fun h hh=>?_;cases H;exact rt hh
 obtain ⟨cd,e2,H⟩:=zad H;rcases isb H with ⟨c3,H⟩|⟨c3,H⟩;rotate_left
 .skip;apply dv;refine rkp [4] [] [.bool cd] (f3 hh (zAa c1) c3) ?_ ?_
  .exact ⟨fc (f6 (zgu ax hx k c.tables d.tables (fun y y2=>zhg k y y2) cd e2 47 [] (by simp only [zbw,zct,idsA,idsB,idsC,ef]) (fun y y2 w hw=>by first|exact zil ax hx k y y2 w hw|exact (zil ax hx k y y2 w hw))) (by first|rfl|simp only [c3])),trivial⟩
  clear hh h;intro h hh;cases H;exact rt hh
 obtain ⟨di,e4,H⟩:=zad H;apply dv;refine rkp [4] [] [.bool cd,.bool di] (f3 hh (zAa c1) c3) ?_ ?_
 .exact ⟨fc (f6 (zgu ax hx k c.tables d.tables (fun y y2=>zhg k y y2) cd e2 47 [] (by simp only [zbw,zct,idsA,idsB,idsC,ef]) (fun y y2 w hw=>by first|exact zil ax hx k y y2 w hw|exact (zil ax hx k y y2 w hw))) (by first|rfl|simp only [c3])),fc (f6 (zkz ax hx k c.steps d.steps (fun y3 y4=>zie k y3 y4) di e4 44 [] (by simp only [zbw,zct,idsA,idsB,idsC,ef]) (fun y3 y4 w hw=>by first|exact zpa ax hx k y3 y4 w hw|exact (zpa ax hx k y3 y4 w hw))) (by first|rfl|simp only [c3])),trivial⟩
 clear hh h;intro h hh;cases H;exact rt hh
def zci (k:Nat) (a:zc1) (b:zc1):Nat->Int->Option (Bool ⊕ Unit)
 |0,_=>none
 |m+1,i=>(if i<(a.key.length:Int) then (if 0<=i/\i<(a.key.length:Int) then (if 0<=i/\i<(b.key.length:Int) then (if (gx a.key i)=(gx b.key i) then zci k a b m (dx.wrap (i+1)) else some (.inl false)) else none) else none) else some (.inr ()))
def zhy (k:Nat) (a:zc1) (b:zc1):Option Bool:=(((if a.kind≠b.kind then some true else (if a.var=b.var then (if a.field=b.field then (if a.n≠b.n then some true else (if a.m≠b.m then some true else some (decide ((a.key.length:Int)≠(b.key.length:Int))))) else some true) else some true)):Option Bool).bind fun s_=>(if s_=true then some false else ((zci k a b k 0:Option (Bool ⊕ Unit)).bind fun o=>il (fun r=>some r) (fun s_2=>some true) o)))
theorem ztv (ax:Axs) (hx:NoAx ax) (k:Nat) (a:zc1) (b:zc1) (v:Bool) (H:zhy k a b=some v):Pure Tryz.prog (EE ax) [] 50 [zht a,zht b] (.bool v):=by
 rw [zhy] at H;refine en [.tmp 4] 66 [0,1] (hx.no _ (by decide)) (fn50 ax) ?_;intro h hh;apply dv;refine rk [2,3] [] hh fun h hh=>?_;obtain ⟨s_,H1,H⟩:=zad H;repeat apply dv
 refine cu [2,3,47] 2 (fun h bs=>(h 2=.ptr 0 0 6/\h 3=.ptr 1 0 6/\h 47=.bool s_)/\bs=[.cells true 6 [.int .i64 a.kind,.str a.var,strs a.key,.str a.field,.int .i64 a.n,.int .i64 a.m],.cells true 6 [.int .i64 b.kind,.str b.var,strs b.key,.str b.field,.int .i64 b.n,.int .i64 b.m]]) ?_ ?_
 .skip;rcases isp H1 with ⟨c1,H1⟩|⟨c1,H1⟩;rotate_left
  .skip;rcases isp H1 with ⟨c2,H1⟩|⟨c2,H1⟩;rotate_left
   .skip;refine rk [2,3,47] [] (f3 hh (zAb c1) (zAb c2)) fun h hh=>?_;cases H1;exact ce hh ⟨kq hh,rfl⟩
   rcases isp H1 with ⟨c3,H1⟩|⟨c3,H1⟩;rotate_left
   .skip;refine rk [2,3,47] [] (f3 hh (zAb c1) (f2 (zAa c2) (zAb c3))) fun h hh=>?_;cases H1;exact ce hh ⟨kq hh,rfl⟩
   rcases isp H1 with ⟨c4,H1⟩|⟨c4,H1⟩;rotate_left
   .skip;rcases isp H1 with ⟨c5,H1⟩|⟨c5,H1⟩;rotate_left
    .skip;refine rk [2,3,47] [] (f3 hh (zAb c1) (f3 (zAa c2) (zAa c3) (f2 (zAb c4) (zAb c5)))) fun h hh=>?_;cases H1;exact ce hh ⟨kq hh,rfl⟩
    refine rk [2,3,47] [] (f3 hh (zAb c1) (f3 (zAa c2) (zAa c3) (f2 (zAb c4) (zAa c5)))) fun h hh=>?_;cases H1;exact ce hh ⟨kq hh,rfl⟩
   refine rk [2,3,47] [] (f3 hh (zAb c1) (f3 (zAa c2) (zAa c3) (zAa c4))) fun h hh=>?_;cases H1;exact ce hh ⟨kq hh,rfl⟩
  refine rk [2,3,47] [] (f2 hh (zAa c1)) fun h hh=>?_;cases H1;exact ce hh ⟨kq hh,rfl⟩
 clear hh h;rintro h bs ⟨hh,rfl⟩;rcases isb H with ⟨c6,H⟩|⟨c6,H⟩;rotate_left
 .skip;refine cf (f2 hh c6) ?_;refine sk ?_;repeat apply dv
  refine rk [2,3,5] [] (f2 hh c6) fun h hh=>?_;obtain ⟨o,H1,H⟩:=zad H;refine cu [] 2 (fun h bs=>∃ s_2:Unit,o=.inr s_2/\(True)/\bs=[.cells true 6 [.int .i64 a.kind,.str a.var,strs a.key,.str a.field,.int .i64 a.n,.int .i64 a.m],.cells true 6 [.int .i64 b.kind,.str b.var,strs b.key,.str b.field,.int .i64 b.n,.int .i64 b.m]]) ?_ ?_
  .skip;apply ey;refine gt [2,3,5] (fun m h bs=>∃ (i:Int),zci k a b m i=some o/\(h 2=.ptr 0 0 6/\h 3=.ptr 1 0 6/\h 5=.int .i64 i)/\bs=[.cells true 6 [.int .i64 a.kind,.str a.var,strs a.key,.str a.field,.int .i64 a.n,.int .i64 a.m],.cells true 6 [.int .i64 b.kind,.str b.var,strs b.key,.str b.field,.int .i64 b.n,.int .i64 b.m]]) ?_ k _ _ ?_;rotate_left
   .exact ⟨0,H1,kq hh,rfl⟩
   clear hh h H1;rintro m h bs ⟨i,H1,hh,rfl⟩;rcases m with _|m
   .rw [zci] at H1;cases H1
   rw [zci] at H1;repeat apply dv
   refine rk [2,3,5,52] [] (f2 hh c6) fun h hh=>?_;rcases isp H1 with ⟨c7,H1⟩|⟨c7,H1⟩;rotate_left
   .skip;refine cf (f2 hh (zAb c7)) ?_;refine xk ?_;cases H1;exact ce hh ⟨_,rfl,kq hh,rfl⟩
   refine ct (f2 hh (zAa c7)) ?_;refine sk ?_;apply dv;apply ey;obtain ⟨g8,H1⟩:=isg H1;obtain ⟨g9,H1⟩:=isg H1;apply dv;refine dk 10 [2,3,5,65] [] [] [] (f3 hh c6 (f2 (zaf g8) (zaf g9))) trivial trivial fun h hh=>?_;rcases isp H1 with ⟨c10,H1⟩|⟨c10,H1⟩;rotate_left
   .skip;refine ct (f2 hh (zAb c10)) ?_;apply dv;refine rk [4] [] (f2 hh c6) fun h hh=>?_;cases H1;obtain rfl:=sinl H;exact rt hh
   refine cf (f2 hh (zAa c10)) ?_;refine sk ?_;refine rk [2,3,5] [] (f2 hh c6) fun h hh=>?_;exact rd m hh ⟨(dx.wrap (i+1)),H1,kq hh,rfl⟩
  clear hh h;rintro h bs ⟨s_2,rfl,hh,rfl⟩;replace H:=sinr H;apply dv;refine rk [4] [] (f2 hh c6) fun h hh=>?_;cases H;exact rt hh
 refine ct (f2 hh c6) ?_;apply dv;refine rk [4] [] (f2 hh c6) fun h hh=>?_;cases H;exact rt hh
def zel (k:Nat) (c:zam) (d:zam):Nat->Int->Option (Bool ⊕ Unit)
 |0,_=>none
 |m+1,i=>(if i<(c.tables.length:Int) then (if 0<=i/\i<(c.tables.length:Int) then (if 0<=i/\i<(d.tables.length:Int) then ((znd k (gx c.tables i) (gx d.tables i)).bind fun aj=>(if aj=true then zel k c d m (dx.wrap (i+1)) else some (.inl false))) else none) else none) else some (.inr ()))
def zek (k:Nat) (c:zam) (d:zam):Nat->Int->Option (Bool ⊕ Unit)
 |0,_=>none
 |m+1,i2=>(if i2<(c.steps.length:Int) then (if 0<=i2/\i2<(c.steps.length:Int) then (if 0<=i2/\i2<(d.steps.length:Int) then ((zhy k (gx c.steps i2) (gx d.steps i2)).bind fun dj=>(if dj=true then zek k c d m (dx.wrap (i2+1)) else some (.inl false))) else none) else none) else some (.inr ()))
def zjy (k:Nat) (c:zam) (d:zam):Option Bool:=(((if c.version≠d.version then some true else (if (c.tables.length:Int)≠(d.tables.length:Int) then some true else some (decide ((c.steps.length:Int)≠(d.steps.length:Int))))):Option Bool).bind fun s_=>(if s_=true then some false else ((zel k c d k 0:Option (Bool ⊕ Unit)).bind fun o2=>il (fun r=>some r) (fun s_2=>((zek k c d k 0:Option (Bool ⊕ Unit)).bind fun o=>il (fun r=>some r) (fun s_3=>some true) o)) o2)))
theorem zsv (ax:Axs) (hx:NoAx ax) (k:Nat) (c:zam) (d:zam) (v:Bool) (H:zjy k c d=some v):Pure Tryz.prog (EE ax) [] 13 [zds c,zds d] (.bool v):=by
 rw [zjy] at H;refine en [.tmp 4] 72 [0,1] (hx.no _ (by decide)) (fn13 ax) ?_;intro h hh;apply dv;refine rk [2,3] [] hh fun h hh=>?_;obtain ⟨s_,H1,H⟩:=zad H;repeat apply dv
 refine cu [2,3,31] 2 (fun h bs=>(h 2=.ptr 0 0 3/\h 3=.ptr 1 0 3/\h 31=.bool s_)/\bs=[.cells true 3 [.int .i64 c.version,zak c.tables,zah c.steps],.cells true 3 [.int .i64 d.version,zak d.tables,zah d.steps]]) ?_ ?_
 .skip;rcases isp H1 with ⟨c1,H1⟩|⟨c1,H1⟩;rotate_left
  .skip;rcases isp H1 with ⟨c2,H1⟩|⟨c2,H1⟩;rotate_left
   .skip;refine rk [2,3,31] [] (f3 hh (zAb c1) (zAb c2)) fun h hh=>?_;cases H1;exact ce hh ⟨kq hh,rfl⟩
   refine rk [2,3,31] [] (f3 hh (zAb c1) (zAa c2)) fun h hh=>?_;cases H1;exact ce hh ⟨kq hh,rfl⟩
  refine rk [2,3,31] [] (f2 hh (zAa c1)) fun h hh=>?_;cases H1;exact ce hh ⟨kq hh,rfl⟩
 clear hh h;rintro h bs ⟨hh,rfl⟩;rcases isb H with ⟨c3,H⟩|⟨c3,H⟩;rotate_left
 .skip;refine cf (f2 hh c3) ?_;refine sk ?_;repeat apply dv
  refine rk [2,3,5] [] (f2 hh c3) fun h hh=>?_;obtain ⟨o2,H1,H⟩:=zad H;refine cu [2,3] 2 (fun h bs=>∃ s_2:Unit,o2=.inr s_2/\(h 2=.ptr 0 0 3/\h 3=.ptr 1 0 3)/\bs=[.cells true 3 [.int .i64 c.version,zak c.tables,zah c.steps],.cells true 3 [.int .i64 d.version,zak d.tables,zah d.steps]]) ?_ ?_
  .skip;apply ey;refine gt [2,3,5] (fun m h bs=>∃ (i:Int),zel k c d m i=some o2/\(h 2=.ptr 0 0 3/\h 3=.ptr 1 0 3/\h 5=.int .i64 i)/\bs=[.cells true 3 [.int .i64 c.version,zak c.tables,zah c.steps],.cells true 3 [.int .i64 d.version,zak d.tables,zah d.steps]]) ?_ k _ _ ?_;rotate_left
   .exact ⟨0,H1,kq hh,rfl⟩
   clear hh h H1;rintro m h bs ⟨i,H1,hh,rfl⟩;rcases m with _|m
   .rw [zel] at H1;cases H1
   rw [zel] at H1;repeat apply dv
   refine rk [2,3,5,36] [] (f2 hh c3) fun h hh=>?_;rcases isp H1 with ⟨c4,H1⟩|⟨c4,H1⟩;rotate_left
   .skip;refine cf (f2 hh (zAb c4)) ?_;refine xk ?_;cases H1;exact ce hh ⟨_,rfl,kq hh,rfl⟩
   refine ct (f2 hh (zAa c4)) ?_;refine sk ?_;apply dv;apply ey;obtain ⟨g5,H1⟩:=isg H1;obtain ⟨g6,H1⟩:=isg H1;obtain ⟨aj,e7,H1⟩:=zad H1;apply dv;refine dk 10 [2,3,5,6] [] [] [(.bool aj,stL [.cells true 3 [.int .i64 c.version,zak c.tables,zah c.steps],.cells true 3 [.int .i64 d.version,zak d.tables,zah d.steps]])] (f3 hh c3 (f2 (zaf g5) (zaf g6))) trivial ?_ ?_
   .exact ⟨fc (f6 (z3b ax hx k (gx c.tables i) (gx d.tables i) aj e7 ) (by first|rfl|simp only [c3])),trivial⟩
   clear hh h;intro h hh;apply dv;refine rk [2,3,5,51] [] (f2 hh c3) fun h hh=>?_;rcases isb H1 with ⟨c8,H1⟩|⟨c8,H1⟩;rotate_left
   .skip;refine ct (f2 hh c8) ?_;apply dv;refine rk [4] [] (f3 hh c3 c8) fun h hh=>?_;cases H1;obtain rfl:=sinl H;exact rt hh
   refine cf (f2 hh c8) ?_;refine sk ?_;refine rk [2,3,5] [] (f3 hh c3 c8) fun h hh=>?_;exact rd m hh ⟨(dx.wrap (i+1)),H1,kq hh,rfl⟩
  clear hh h;rintro h bs ⟨s_2,rfl,hh,rfl⟩;replace H:=sinr H;repeat apply dv
  refine rk [2,3,7] [] (f2 hh c3) fun h hh=>?_;obtain ⟨o,H1,H⟩:=zad H;refine cu [] 2 (fun h bs=>∃ s_3:Unit,o=.inr s_3/\(True)/\bs=[.cells true 3 [.int .i64 c.version,zak c.tables,zah c.steps],.cells true 3 [.int .i64 d.version,zak d.tables,zah d.steps]]) ?_ ?_
  .skip;apply ey;refine gt [2,3,7] (fun m h bs=>∃ (i2:Int),zek k c d m i2=some o/\(h 2=.ptr 0 0 3/\h 3=.ptr 1 0 3/\h 7=.int .i64 i2)/\bs=[.cells true 3 [.int .i64 c.version,zak c.tables,zah c.steps],.cells true 3 [.int .i64 d.version,zak d.tables,zah d.steps]]) ?_ k _ _ ?_;rotate_left
   .exact ⟨0,H1,kq hh,rfl⟩
   clear hh h H1;rintro m h bs ⟨i2,H1,hh,rfl⟩;rcases m with _|m
   .rw [zek] at H1;cases H1
   rw [zek] at H1;repeat apply dv
   refine rk [2,3,7,56] [] (f2 hh c3) fun h hh=>?_;rcases isp H1 with ⟨c9,H1⟩|⟨c9,H1⟩;rotate_left
   .skip;refine cf (f2 hh (zAb c9)) ?_;refine xk ?_;cases H1;exact ce hh ⟨_,rfl,kq hh,rfl⟩
   refine ct (f2 hh (zAa c9)) ?_;refine sk ?_;apply dv;apply ey;obtain ⟨g10,H1⟩:=isg H1;obtain ⟨g11,H1⟩:=isg H1;obtain ⟨dj,e12,H1⟩:=zad H1;apply dv;refine dk 10 [2,3,7,8] [] [] [(.bool dj,stL [.cells true 3 [.int .i64 c.version,zak c.tables,zah c.steps],.cells true 3 [.int .i64 d.version,zak d.tables,zah d.steps]])] (f3 hh c3 (f2 (zaf g10) (zaf g11))) trivial ?_ ?_
   .exact ⟨fc (f6 (ztv ax hx k (gx c.steps i2) (gx d.steps i2) dj e12 ) (by first|rfl|simp only [c3])),trivial⟩
   clear hh h;intro h hh;apply dv;refine rk [2,3,7,71] [] (f2 hh c3) fun h hh=>?_;rcases isb H1 with ⟨c13,H1⟩|⟨c13,H1⟩;rotate_left
   .skip;refine ct (f2 hh c13) ?_;apply dv;refine rk [4] [] (f3 hh c3 c13) fun h hh=>?_;cases H1;obtain rfl:=sinl H;exact rt hh
   refine cf (f2 hh c13) ?_;refine sk ?_;refine rk [2,3,7] [] (f3 hh c3 c13) fun h hh=>?_;exact rd m hh ⟨(dx.wrap (i2+1)),H1,kq hh,rfl⟩
  clear hh h;rintro h bs ⟨s_3,rfl,hh,rfl⟩;replace H:=sinr H;apply dv;refine rk [4] [] (f2 hh c3) fun h hh=>?_;cases H;exact rt hh
 refine ct (f2 hh c3) ?_;apply dv;refine rk [4] [] (f2 hh c3) fun h hh=>?_;cases H;exact rt hh
noncomputable def arr2 (ax:Axs) (a b:T):Option T:=zio (EE ax) (fun x=>match x with|.tmp 0=>a|_=>b) 60 [(0,.tmp 0),(9,.tmp 1)]
theorem bd60 (ax:Axs):∀ (ρ:Operand->T) (x y:Operand),zio (EE ax) ρ 60 [(0,x),(9,y)]=arr2 ax (ρ x) (ρ y):=fun _ _ _=>rfl
theorem be60 (ax:Axs):∀ a b:Int,arr2 ax (.int .i64 a) (.int .i64 b)=some (.agg ((((zA 10).set 0 a).set 9 b).l.map (dy .i64))):=fun _ _=>rfl
theorem ybu (ax:Axs):(∀ (ρ:Operand->T) (x y:Operand),zio (EE ax) ρ 60 [(0,x),(9,y)]=arr2 ax (ρ x) (ρ y))/\(∀ a b:Int,arr2 ax (.int .i64 a) (.int .i64 b)=some (.agg ((((zA 10).set 0 a).set 9 b).l.map (dy .i64)))):=⟨bd60 ax,be60 ax⟩
def zlq (k:Nat) (r:Rule):Option (Spot×Bool):=(if (0:Int)<=0/\0<(10:Int) then (if (0:Int)<=9/\9<(10:Int) then (if (gx r.mat.mask.l 0)=65535 then some ((⟨gx r.mat.bits.l 0,gx r.mat.bits.l 9⟩:Spot),(decide ((gx r.mat.mask.l 9)=65535))) else some ((⟨gx r.mat.bits.l 0,gx r.mat.bits.l 9⟩:Spot),false)) else none) else none)
theorem zql (ax:Axs) (hx:NoAx ax) (k:Nat) (r:Rule) (v:Spot×Bool) (H:zlq k r=some v):Pure Tryz.prog (EE ax) [] 52 [zai r] (tupT [zed v.1,.bool v.2]):=by
 rw [zlq] at H;refine enN [.cell 2 106,.tmp 3] 24 [0] (hx.no _ (by decide)) (fn52 ax) ?_;intro h hh;apply dv;refine rk [1,2] [] hh fun h hh=>?_;apply dv;refine rk [2,4] [] hh fun h hh=>?_;obtain ⟨g1,H⟩:=isg H;obtain ⟨g2,H⟩:=isg H;rcases isp H with ⟨c3,H⟩|⟨c3,H⟩;rotate_left
 .skip;apply dv;refine ds 17 [(2,some 1),(20,some 920)] [2,3] [] [] [] (f3 hh (zAb c3) (f3 (zn4 (k:=.i64) (off:=10) (L:=(r.mat.mask.l.map (dy .i64)++(r.mat.bits.l.map (dy .i64)))) (r:=[]) r.mat.bits g1) (zn4 (k:=.i64) (off:=10) (L:=(r.mat.mask.l.map (dy .i64)++(r.mat.bits.l.map (dy .i64)))) (r:=[]) r.mat.bits g2) (zn3 (k:=.i64) (L:=(r.mat.mask.l.map (dy .i64)++(r.mat.bits.l.map (dy .i64)))) (r:=(r.mat.bits.l.map (dy .i64))) r.mat.mask g1))) trivial trivial fun h hh=>?_;cases H;exact rtc hh
 apply dv;refine ds 17 [(2,some 1),(20,some 2)] [2,3] [] [] [] (f3 hh (zAa c3) (f3 (zn4 (k:=.i64) (off:=10) (L:=(r.mat.mask.l.map (dy .i64)++(r.mat.bits.l.map (dy .i64)))) (r:=[]) r.mat.bits g1) (zn4 (k:=.i64) (off:=10) (L:=(r.mat.mask.l.map (dy .i64)++(r.mat.bits.l.map (dy .i64)))) (r:=[]) r.mat.bits g2) (f2 (zn3 (k:=.i64) (L:=(r.mat.mask.l.map (dy .i64)++(r.mat.bits.l.map (dy .i64)))) (r:=(r.mat.bits.l.map (dy .i64))) r.mat.mask g1) (zn3 (k:=.i64) (L:=(r.mat.mask.l.map (dy .i64)++(r.mat.bits.l.map (dy .i64)))) (r:=(r.mat.bits.l.map (dy .i64))) r.mat.mask g2)))) trivial trivial fun h hh=>?_;cases H;exact rtc hh
def zbm (k:Nat) (s_:Spot):Option Pat:=some (⟨(((zA 10).set 0 65535).set 9 65535),(((zA 10).set 0 s_.port).set 9 s_.tag)⟩:Pat)
theorem zdv (ax:Axs) (hx:NoAx ax) (k:Nat) (s_:Spot) (v:Pat) (H:zbm k s_=some v):Pure Tryz.prog (EE ax) [] 61 [zed s_] (ePat v):=by
 rw [zbm] at H;refine en [.cell 2 101] 12 [0] (hx.no _ (by decide)) (fn61 ax) ?_;intro h hh;apply dv;refine rk [1,2] [] hh fun h hh=>?_;apply dv;refine rk [1,2,3] [] (f2 hh (ybu ax)) fun h hh=>?_;apply dv;refine rk [2] [] (f2 hh (ybu ax)) fun h hh=>?_;cases H;exact rtc hh
def ze7 (k:Nat) (s_:Spot) (r:Rule):Option Bool:=((zbm k s_).bind fun ai=>((zfv k r.mat ai).bind fun ay=>some ay))
theorem zkl (ax:Axs) (hx:NoAx ax) (k:Nat) (s_:Spot) (r:Rule) (v:Bool) (H:ze7 k s_ r=some v):Pure Tryz.prog (EE ax) [] 55 [zed s_,zai r] (.bool v):=by
 rw [ze7] at H;refine en [.tmp 4] 10 [0,1] (hx.no _ (by decide)) (fn55 ax) ?_;intro h hh;apply dv;refine rk [2,3] [] hh fun h hh=>?_;obtain ⟨ai,e1,H⟩:=zad H;obtain ⟨ay,e2,H⟩:=zad H;apply dv;refine dk 4 [4] [ePat ai] [] [(.bool ay,stL [.cells true 2 [.int .i64 s_.port,.int .i64 s_.tag],.cells true 23 (dy .i64 r.prio :: (r.mat.mask.l.map (dy .i64)++(r.mat.bits.l.map (dy .i64)++[dy .i64 r.step,zbb r.outs])))])] hh ?_ ?_ ?_
 .exact ⟨(zdv ax hx k s_ ai e1 ).call _,trivial⟩
 .exact ⟨fc ((zmz ax hx k r.mat ai ay e2 ).call _),trivial⟩
 clear hh h;intro h hh;cases H;exact rt hh
def zf7 (k:Nat) (r:Rule) (fv:Spot):Option Bool:=((zlq k r).bind fun bt=>(if bt.2=true then some false else ((ze7 k fv r).bind fun ar=>some ar)))
theorem zr4 (ax:Axs) (hx:NoAx ax) (k:Nat) (r:Rule) (fv:Spot) (v:Bool) (H:zf7 k r fv=some v):Pure Tryz.prog (EE ax) [] 54 [zai r,.cp [.int .i64 fv.port,.int .i64 fv.tag]] (.bool v):=by
 rw [zf7] at H;refine en [.tmp 3] 18 [0,1] (hx.no _ (by decide)) (fn54 ax) ?_;intro h hh;apply dv;refine rk [1,2] [] hh fun h hh=>?_;obtain ⟨bt,e1,H⟩:=zad H;apply dv;refine rkc [1,2,5] [] [(.tup [zed bt.1,.bool bt.2],stL [.cells true 23 (dy .i64 r.prio :: (r.mat.mask.l.map (dy .i64)++(r.mat.bits.l.map (dy .i64)++[dy .i64 r.step,zbb r.outs])))])] hh ?_ ?_
 .exact ⟨fc ((zql ax hx k r bt e1 ).call _),trivial⟩
 clear hh h;intro h hh;rcases isb H with ⟨c2,H⟩|⟨c2,H⟩;rotate_left
 .skip;obtain ⟨ar,e3,H⟩:=zad H;apply dv;refine rkp [3] [] [.bool ar] (f2 hh c2) ?_ ?_
  .exact ⟨fc (f6 (zkl ax hx k fv r ar e3 ) (by first|rfl|simp only [c2])),trivial⟩
  clear hh h;intro h hh;cases H;exact rt hh
 apply dv;refine rk [3] [] (f2 hh c2) fun h hh=>?_;cases H;exact rt hh
def zbi (k:Nat) (s_:List Rule) (f_:Rule->Option Bool):Nat->Int->Option (Int ⊕ Unit)
 |0,_=>none
 |m+1,i=>(if i<(s_.length:Int) then (if 0<=i/\i<(s_.length:Int) then ((f_ (gx s_ i)).bind fun r=>(if r=true then some (.inl i) else zbi k s_ f_ m (dx.wrap (i+1)))) else none) else some (.inr ()))
def zda (k:Nat) (s_:List Rule) (f_:Rule->Option Bool):Option Int:=((zbi k s_ f_ k 0:Option (Int ⊕ Unit)).bind fun o=>il (fun r=>some r) (fun s_2=>some (-1)) o)
theorem zky (ax:Axs) (hx:NoAx ax) (k:Nat) (s_:List Rule) (f_:Rule->Option Bool) (v:Int) (H:zda k s_ f_=some v) (f__f:Nat) (f__c:List T) (f__i:ir 0 f__c=true) (f__h:∀ (y0:Rule) (w:Bool),f_ y0=some w->Pure Tryz.prog (EE ax) [] f__f ([]++[zai y0]++f__c) (.bool w)):Pure Tryz.prog (EE ax) [] 89 [zag s_,.fn f__f [] f__c] (.int .i64 v):=by
 rw [zda] at H;refine en (ha:=by simp only [zbw,zct,idsA,idsB,idsC,f__i,ef]) [.tmp 4] 19 [0,1] (hx.no _ (by decide)) (fn89 ax) ?_;intro h hh;apply dv;refine rk [0,1] [] hh fun h hh=>?_;repeat apply dv
 refine rk [0,1,7,8] [] hh fun h hh=>?_;obtain ⟨o,H1,H⟩:=zad H;refine cu [] 0 (fun h bs=>∃ s_2:Unit,o=.inr s_2/\(True)/\bs=[]) ?_ ?_
 .skip;apply ey;refine gt [0,1,7,8] (fun m h bs=>∃ (i:Int),zbi k s_ f_ m i=some o/\(h 0=zag s_/\h 1=.fn f__f [] f__c/\h 7=.int .i64 (s_.length:Int)/\h 8=.int .i64 i)/\bs=[]) ?_ k _ _ ?_;rotate_left
  .exact ⟨0,H1,kq hh,rfl⟩
  clear hh h H1;rintro m h bs ⟨i,H1,hh,rfl⟩;rcases m with _|m
  .rw [zbi] at H1;cases H1
  rw [zbi] at H1;apply dv;refine rk [0,1,7,8,9] [] hh fun h hh=>?_;rcases isp H1 with ⟨c1,H1⟩|⟨c1,H1⟩;rotate_left
  .skip;apply dv;refine cf (f2 hh (zAb c1)) ?_;refine xk ?_;cases H1;exact ce (f2 hh ((fun m=>zch (ft m) f__i))) ⟨_,rfl,kq hh,rfl⟩
  apply dv;refine ct (f2 hh (zAa c1)) ?_;refine sk ?_;apply dv;apply ey;apply dv;refine rk [0,1,5,7,8] [] hh fun h hh=>?_;obtain ⟨g2,H1⟩:=isg H1;obtain ⟨r,e3,H1⟩:=zad H1;apply dv;refine rkp [0,1,5,7,8,16] [] [.bool r] (f2 hh (zaf g2)) ?_ ?_
  .exact ⟨fc ((f__h (gx s_ i) r e3).call _),trivial⟩
  clear hh h;intro h hh;rcases isb H1 with ⟨c4,H1⟩|⟨c4,H1⟩;rotate_left
  .skip;refine cf (f2 hh c4) ?_;refine sk ?_;refine rk [0,1,7,8] [] (f2 hh c4) fun h hh=>?_;exact rd m (f2 hh ((fun m=>zch (ft m) f__i))) ⟨(dx.wrap (i+1)),H1,kq hh,rfl⟩
  refine ct (f2 hh c4) ?_;apply dv;refine rk [4] [] (f2 hh c4) fun h hh=>?_;cases H1;obtain rfl:=sinl H;exact rt hh
 clear hh h;rintro h bs ⟨s_2,rfl,hh,rfl⟩;replace H:=sinr H;apply dv;refine rk [4] [] hh fun h hh=>?_;cases H;exact rt hh
def zbu (k:Nat) (s_:List Rule) (f_:Rule->Option Bool):Option Bool:=((zda k s_ f_).bind fun am=>some (decide (0<=am)))
theorem zjf (ax:Axs) (hx:NoAx ax) (k:Nat) (s_:List Rule) (f_:Rule->Option Bool) (v:Bool) (H:zbu k s_ f_=some v) (f__f:Nat) (f__c:List T) (f__i:ir 0 f__c=true) (f__h:∀ (y0:Rule) (w:Bool),f_ y0=some w->Pure Tryz.prog (EE ax) [] f__f ([]++[zai y0]++f__c) (.bool w)):Pure Tryz.prog (EE ax) [] 53 [zag s_,.fn f__f [] f__c] (.bool v):=by
 rw [zbu] at H;refine en (ha:=by simp only [zbw,zct,idsA,idsB,idsC,f__i,ef]) [.tmp 4] 9 [0,1] (hx.no _ (by decide)) (fn53 ax) ?_;intro h hh;apply dv;refine rk [0,1] [] hh fun h hh=>?_;obtain ⟨am,e1,H⟩:=zad H;apply dv;refine rkp [4] [] [.int .i64 am] hh ?_ ?_
 .exact ⟨fc ((zky ax hx k s_ f_ am e1 f__f f__c f__i f__h).call _),trivial⟩
 clear hh h;intro h hh;cases H;exact rt hh
end Go.Proofs.YteifcnjpjjaikaaGreat
