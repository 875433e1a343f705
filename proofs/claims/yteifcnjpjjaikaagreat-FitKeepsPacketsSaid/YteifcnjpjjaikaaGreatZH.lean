/- Part 8 of the proof of FitKeepsPackets (several texts in one; no further condition). -/
import Derived.Test.YteifcnjpjjaikaaGreatZE
import Derived.Test.YteifcnjpjjaikaaGreatZG
import Derived.WalkKit
import Derived.Laws.BitsAllLaws
import Derived.Test.YteifcnjpjjaikaaGreatRows
import Derived.Test.YteifcnjpjjaikaaGreatZF
set_option linter.unusedSimpArgs false
set_option linter.unusedVariables false
set_option linter.unusedSectionVars false
namespace Go.Proofs.YteifcnjpjjaikaaGreat
set_option maxHeartbeats 8000000
open _root_.And renaming intro->dx
open _root_.BitVec renaming ofInt->gv,toNat_and->oe,toNat_ofInt->lh,toNat_ofNat->oz
open _root_.Bool renaming and_self->el,false_eq_true->lj,not_false->gn,not_true->gp,true_and->ju
open _root_.Eq renaming trans->ej
open Go.Instr renaming sameBits->m8
open Go.IntKind renaming i64->d9
open _root_.List renaming all_eq_true->fd,append_assoc->ey,append_nil->fp,cons_append->fq,drop_eq_getElem_cons->i8,drop_of_length_le->gu,drop_succ_cons->jp,drop_zero->fl,ext_getElem?->nv,findSome?_cons->m4,flatten_cons->gh,flatten_nil->fg,getD_eq_getElem?_getD->eh,getElem?_append_right->gm,getElem?_cons_succ->jo,getElem?_cons_zero->fx,getElem?_eq_getElem->ef,getElem?_eq_none->je,getElem?_eq_some_iff->et,getElem?_set->qk,getElem_mem->ft,length_append->eu,length_cons->ez,length_map->ek,length_nil->gd,length_singleton->gz,length_take->gi,map_cons->ge,mem_cons->ic,mem_map->ip,mem_of_getElem?->ij,mem_range->jf,mem_singleton->jv,nil_append->fb,range->i7,range'->n8,range'_succ->ne,range_eq_range'->ma,replicate->ew,set_cons_succ->kb,set_cons_zero->ku,take_of_length_le->gc
open _root_.Nat renaming add_zero->ii,le_refl->ei,lt_of_lt_of_le->fh,lt_or_ge->ko,mod_eq_of_lt->m6,reduceAdd->ed,reduceEqDiff->ee,reduceLT->fm,reduceLeDiff->jr,reduceMul->fy,reduceSub->gw,sub_self->ln,zero_add->f6,zero_le->gb
open Go renaming Operand->ep
open _root_.Option renaming bind_some->dz
open _root_.Option.some renaming injEq->dy
open Go.Proofs.YteifcnjpjjaikaaGreat.Pure renaming clr->gq
open Go.Proofs.YteifcnjpjjaikaaGreat.Sh renaming sz->pg,szL->nl
open _root_.Sum renaming elim->i9
open Go.Proofs.YteifcnjpjjaikaaGreat.T renaming cells->gt,int->d7,ren->py,renL->nu,str->oq
open Go.Proofs.YteifcnjpjjaikaaGreat.TS renaming add_ne->o9,add_same->qj,set_ne->gy,set_same->iu
open Go.Proofs.YteifcnjpjjaikaaGreat.TW renaming block->fo,freeze->nf,loopT->iw,seq->d6
open Go.Proofs.YteifcnjpjjaikaaGreat.zap renaming call->ff
set_option maxRecDepth 100000
open Go Go.RowKit
noncomputable def axS:Axs:=z8x 8 (z6m (.bool true)) fun _=>none
theorem ytg:zmx Tryz.prog GG LL axS:=(zmx.none yan).add (ytf (L:=LL) (ax:=fun _=>none) zri (fn8 fun _=>none) rfl rfl yct)
theorem yrc:axS 8=some (z6m (.bool true)):=ydp _ _ _
theorem yjv:ydt axS:=by
  refine ⟨fun f hf=>yme _ _ fun h=>?_,rfl,rfl,fun A β s vargs hT hv=>?_⟩
  . subst h;rw [Nat.beq_refl] at hf;cases hf
  . cases hv;exact ⟨.bool true,s,A,β,yl8 (k:=z6m (.bool true)) yrc rfl,hT,.bool true,Stp.refl⟩
theorem yha {f:FuncId} {fn:Func} {body:Code} (hfn:(EE axS).fn.at f=some fn) (hb:fn.body=some body) {args:List T} {vs:Array Value} {W:World} (h:RtL W args vs.toList) (hp:Pure Tryz.prog (EE axS) [] f args (.bool true)) :
    Calls Tryz.prog f vs W fun e W'=>e=.returned (.bool true)/\Below W.heap.size W W':=by
  obtain ⟨A,xs,k⟩:=entL (N:=W.heap.size) (G:=GG) (K:=[]) rfl (fun p hp=>by simp at hp) (fun g hg=>by simp [has,GG] at hg) h [];have e:([]:List Seg)++A++[]=A:=by simp
  have kr:=k.vr [];have kl:=k.vl [];have ka:=k.at_ [];rw [e] at kr kl ka;obtain ⟨r1,r2,r3,r4⟩:=ye0 (G:=GG) (N:=W.heap.size) (K:=[]) (A:=A) rfl (fun p hp=>by simp at hp) (fun p hp=>by simp at hp) (fun g hg=>by simp [has,GG] at hg) ka
  have hT:TRel [] (Low W.heap.size) bx0 ts0 (St (W.heap.size+A.length) (famS W.heap.size [] A) 0 [] []) :=
    ⟨⟨_,rfl⟩,r2,fun f hf=>by have:f<W.heap.size:=hf;show f<W.heap.size+A.length;omega,fun f hf=>absurd hf zj7,fun b b' l l' f hb=>by simp [bx0] at hb,fun b _=>rfl,fun b z N l hb=>by simp [ts0] at hb,fun b l hb=>by simp [ts0] at hb,fun x hx=>by simp at hx⟩
  obtain ⟨v,s2,A',β',e1,e2,e3,e4⟩:=hp.2.2 _ _ _ xs hT kl;cases e3;refine (yl5 z7u zri ytg hfn hb (args':=vs) e1 kr r1 r4 r2 r3).mono ?_;rintro e w' ⟨σ',v',rfl,k1,k2⟩;exact ⟨by rw [zq1 3 rfl k1],k2⟩
theorem yma {w:Nat} (x y:BitVec w):x &&& ~~~y=x - (x &&& y):=by
  have h1:(x &&& ~~~y) &&& (x &&& y)=0#w:=by
    apply BitVec.eq_of_getLsbD_eq;intro i hi;simp only [BitVec.getLsbD_and,BitVec.getLsbD_not,hi,decide_true,ju,BitVec.getLsbD_zero];cases x.getLsbD i<;>cases y.getLsbD i<;>rfl
  have h2:(x &&& ~~~y) ||| (x &&& y)=x:=by
    apply BitVec.eq_of_getLsbD_eq;intro i hi;simp only [BitVec.getLsbD_or,BitVec.getLsbD_and,BitVec.getLsbD_not,hi,decide_true,ju];cases x.getLsbD i<;>cases y.getLsbD i<;>rfl
  have h3:=BitVec.add_eq_or_of_and_eq_zero _ _ h1;rw [h2] at h3;exact BitVec.eq_sub_iff_add_eq.2 h3
theorem zxj (w:Nat) {a b:Nat} (ha:a<2 ^ w) (hb:b<2 ^ w):a &&& (2 ^ w - 1 - b)=a - (a &&& b):=by
  have h:=congrArg BitVec.toNat (yma (BitVec.ofNat w a) (BitVec.ofNat w b));rw [oe,BitVec.toNat_not,oz,oz,m6 ha,m6 hb,BitVec.toNat_sub_of_le,oe,oz,oz,m6 ha,m6 hb] at h
  . exact h
  . rw [BitVec.le_def,oe];exact Nat.and_le_left
theorem yds {a b:Nat} (ha:a<9223372036854775808) (hb:b<9223372036854775808):bits .andNot .i64 (a:Int) (b:Int)=((a - (a &&& b):Nat):Int):=by
  have h:=zxj 64 (a:=a) (b:=b) (by omega) (by omega);show d9.wrap ((gv 64 (a:Int) &&& ~~~gv 64 (b:Int)).toNat:Int)=_;rw [oe,BitVec.toNat_not,lh,lh];rw [show ((a:Int) % ((2 ^ 64:Nat):Int)).toNat=a by omega,show ((b:Int) % ((2 ^ 64:Nat):Int)).toNat=b by omega,h];have hc:a - (a &&& b)<9223372036854775808:=by omega
  generalize a - (a &&& b)=c at *;simp [IntKind.wrap,IntKind.bits,IntKind.signed];split<;>omega
abbrev big:Nat:=9223372036854775808
theorem zcu (i:Nat) (h:i<9223372036854775807):d9.wrap ((i:Int)+1)=((i+1:Nat):Int):=by
  rw [wr64 (by omega)];push_cast;rfl
theorem z49 {α:Type} [Inhabited α] (l:List α) (i:Nat):gx l (i:Int)=l.getD i default:=rfl
theorem zca {α:Type} [Inhabited α] {l:List α} {i:Nat} (h:i<l.length):gx l (i:Int)=l[i]:=by
  rw [z49,eh,ef h];rfl
section
variable {α β σ:Type}
def sumO (o:Option β):β ⊕ Unit:=match o with|some b=>.inl b|none=>.inr ()
theorem zot {L : Nat -> Int -> Option (β ⊕ Unit)} (n : Nat) (c : Nat -> Option β) (hn : n < big) (hs : ∀ m (j : Nat), j < n -> L (m + 1) (j : Int) = match c j with | some b => some (.inl b) | none => L m (d9.wrap ((j : Int) + 1)))
    (he:∀ m,L (m+1) (n:Int)=some (.inr ())) {k:Nat} (hk:n<k):L k 0=some (sumO ((i7 n).findSome? c)):=by
  have key:∀ m j,j<=n->n - j<m->L m (j:Int)=some (sumO ((n8 j (n - j)).findSome? c)):=by
    intro m
    induction m with
    |zero=>intro j h1 h2;omega
    |succ m ih =>
      intro j h1 h2;by_cases hj:j<n
      . rw [hs m j hj,show n - j=(n - (j+1))+1 by omega,ne,m4]
        cases hc:c j with
        |some b=>rfl
        |none =>
          simp only;rw [zcu j (by simp only [big] at hn;omega)];exact ih (j+1) (by omega) (by omega)
      . obtain rfl:j=n:=by omega
        rw [he,ln];rfl
  have:=key k 0 (gb _) (by omega);rw [ma];exact this
theorem ztk {c:Nat->Option β} {d:α->Option β}:∀ (l:List α) (s:Nat),(∀ j (h:j<l.length),c (s+j)=d l[j])->(n8 s l.length).findSome? c=l.findSome? d
  |[],s,_=>rfl
  |x :: l,s,h=>by
    rw [ez,ne,m4,m4];have h0:=h 0 (by simp);rw [ii] at h0;rw [h0];simp only [List.getElem_cons_zero];rw [ztk l (s+1) fun j hj=>by have:=h (j+1) (by simpa using hj);rw [show s+(j+1)=s+1+j by omega] at this;simpa using this]
theorem yg5 {L : Nat -> Int -> Option (β ⊕ Unit)} (l : List α) (c : α -> Option β) (hn : l.length < big) (hs : ∀ m (j : Nat) (h : j < l.length), L (m + 1) (j : Int) = match c l[j] with | some b => some (.inl b) | none => L m (d9.wrap ((j : Int) + 1)))
    (he:∀ m,L (m+1) (l.length:Int)=some (.inr ())) {k:Nat} (hk:l.length<k):L k 0=some (sumO (l.findSome? c)):=by
  rw [zot l.length (fun j=>if h:j<l.length then c l[j] else none) hn (fun m j h=>by rw [hs m j h,dif_pos h]) he hk,ma];rw [ztk l 0 fun j h=>by rw [f6,dif_pos h]]
theorem zn1 {c:α->Option β} {b:β} {q:α->Bool}:∀ (l:List α),(∀ x,x∈l->c x=if q x=true then none else some b)->l.findSome? c=if l.all q=true then none else some b
  |[],_=>rfl
  |x :: l,h=>by
    rw [m4,h x (.head _),List.all_cons]
    cases hq:q x with
    |true=>simp only [if_true,ju];exact zn1 l fun y hy=>h y (.tail _ hy)
    |false=>rfl
theorem zkr {L:Nat->Int->Option (β ⊕ Unit)} (l:List α) (b:β) (q:α->Bool) (hn:l.length<big) (hs:∀ m (j:Nat) (h:j<l.length),L (m+1) (j:Int)=if q l[j]=true then L m (d9.wrap ((j:Int)+1)) else some (.inl b))
    (he:∀ m,L (m+1) (l.length:Int)=some (.inr ())) {k:Nat} (hk:l.length<k):L k 0=some (if l.all q=true then .inr () else .inl b):=by
  rw [yg5 l (fun x=>if q x=true then none else some b) hn (fun m j h=>by rw [hs m j h];cases q l[j]<;>rfl) he hk,zn1 l fun _ _=>rfl];cases l.all q<;>rfl
theorem ziu {L:Nat->Int->Option (β ⊕ Unit)} (n:Nat) (b:β) (q:Nat->Bool) (hn:n<big) (hs:∀ m (j:Nat),j<n->L (m+1) (j:Int)=if q j=true then L m (d9.wrap ((j:Int)+1)) else some (.inl b))
    (he:∀ m,L (m+1) (n:Int)=some (.inr ())) {k:Nat} (hk:n<k):L k 0=some (if (i7 n).all q=true then .inr () else .inl b):=by
  rw [zot n (fun x=>if q x=true then none else some b) hn (fun m j h=>by rw [hs m j h];cases q j<;>rfl) he hk,zn1 _ fun _ _=>rfl];cases (i7 n).all q<;>rfl
theorem z4u {L:Nat->Int->σ->Option σ} (n:Nat) (f:σ->Nat->σ) (I:Nat->σ->Prop) (hn:n<big) (hs:∀ m (j:Nat) s,j<n->I j s->L (m+1) (j:Int) s=L m (d9.wrap ((j:Int)+1)) (f s j)/\I (j+1) (f s j))
    (he:∀ m s,I n s->L (m+1) (n:Int) s=some s) {k:Nat} (hk:n<k) {s:σ} (h0:I 0 s):L k 0 s=some ((i7 n).foldl f s)/\I n ((i7 n).foldl f s):=by
  have key:∀ m j s,j<=n->n - j<m->I j s->L m (j:Int) s=some ((n8 j (n - j)).foldl f s)/\I n ((n8 j (n - j)).foldl f s):=by
    intro m
    induction m with
    |zero=>intro j s h1 h2;omega
    |succ m ih =>
      intro j s h1 h2 hI;by_cases hj:j<n
      . obtain ⟨a,b⟩:=hs m j s hj hI;rw [a,show n - j=(n - (j+1))+1 by omega,ne,List.foldl_cons,zcu j (by simp only [big] at hn;omega)];exact ih (j+1) _ (by omega) (by omega) b
      . obtain rfl:j=n:=by omega
        rw [he m s hI,ln];exact ⟨rfl,hI⟩
  have:=key k 0 s (gb _) (by omega) h0;rw [ma];exact this
theorem zxk {l:List α} {q:α->Bool}:l.all q=true↔∀ j (h:j<l.length),q l[j]=true:=by
  rw [fd];exact ⟨fun h j hj=>h _ (ft hj),fun h x hx=>by obtain ⟨j,hj,rfl⟩:=List.getElem_of_mem hx;exact h j hj⟩
def idxB (q:α->Bool) (l:List α):Int:=match l.findIdx? q with|some i=>(i:Int)|none=>-1
theorem zt7 (q:α->Bool) (l:List α):decide (0<=idxB q l)=l.any q:=by
  unfold idxB
  cases h:l.findIdx? q with
  |none =>
    have:=List.findIdx?_eq_none_iff.1 h;have e:l.any q=false:=by rw [List.any_eq_false];intro x hx;simp [this x hx]
    rw [e];rfl
  |some i =>
    have:=List.findIdx?_isSome (xs:=l) (p:=q);rw [h] at this;rw [<- this];simp
theorem zju {L:Nat->Int->Option (Int ⊕ Unit)} (l:List α) (q:α->Bool) (hn:l.length<big) (hs:∀ m (j:Nat) (h:j<l.length),L (m+1) (j:Int)=if q l[j]=true then some (.inl (j:Int)) else L m (d9.wrap ((j:Int)+1)))
    (he:∀ m,L (m+1) (l.length:Int)=some (.inr ())) {k:Nat} (hk:l.length<k):(L k 0).bind (fun o=>i9 (fun r=>some r) (fun _=>some (-1)) o)=some (idxB q l):=by
  have h:=zot (L:=L) l.length (fun (j:Nat)=>if (l[j]?).any q=true then some (j:Int) else none) hn (fun m j h=>by
    rw [hs m j h,ef h];rw [Option.any_some]
    cases q l[j]<;>rfl) he hk
  rw [h,dz,ma]
  have key:∀ (l2 pre:List α),(n8 pre.length l2.length).findSome? (fun (j:Nat)=>if ((pre++l2)[j]?).any q=true then some (j:Int) else none)=(l2.findIdx? q).map fun i=>((pre.length+i:Nat):Int):=by
    intro l2
    induction l2 with
    |nil=>intro pre;rfl
    |cons x l2 ih =>
      intro pre;rw [ez,ne,m4,List.findIdx?_cons];have e0:(pre++x :: l2)[pre.length]?=some x:=by rw [gm (ei _),ln];rfl
      rw [e0];rw [Option.any_some]
      cases hq:q x with
      |true=>simp
      |false =>
        simp only [lj,if_false];have:=ih (pre++[x]);rw [eu,gz,ey,List.singleton_append] at this;rw [this]
        cases l2.findIdx? q with
        |none=>rfl
        |some i=>simp;omega
  have:=key l [];simp only [gd,fb,f6] at this;rw [this];unfold idxB;cases l.findIdx? q<;>rfl
end
/-! words -/
theorem zub {a b:Nat} (ha:a<9223372036854775808) (hb:b<9223372036854775808):iAnd .i64 (a:Int) (b:Int)=((a &&& b:Nat):Int):=by
  have h:a &&& b<=a:=Nat.and_le_left;show d9.wrap ((gv 64 (a:Int) &&& gv 64 (b:Int)).toNat:Int)=_;rw [oe,lh,lh];rw [show ((a:Int) % ((2 ^ 64:Nat):Int)).toNat=a by omega,show ((b:Int) % ((2 ^ 64:Nat):Int)).toNat=b by omega];exact wr64 (by omega)
theorem ylh {a b:Nat} (ha:a<9223372036854775808) (hb:b<9223372036854775808):iXor .i64 (a:Int) (b:Int)=((a ^^^ b:Nat):Int):=by
  have h:a ^^^ b<2 ^ 63:=Nat.xor_lt_two_pow (by omega) (by omega);show d9.wrap ((gv 64 (a:Int) ^^^ gv 64 (b:Int)).toNat:Int)=_;rw [BitVec.toNat_xor,lh,lh];rw [show ((a:Int) % ((2 ^ 64:Nat):Int)).toNat=a by omega,show ((b:Int) % ((2 ^ 64:Nat):Int)).toNat=b by omega];exact wr64 (by omega)
theorem yh2 {a b:Nat} (ha:a<9223372036854775808) (hb:b<9223372036854775808):iOr .i64 (a:Int) (b:Int)=((a ||| b:Nat):Int):=by
  have h:a ||| b<2 ^ 63:=Nat.or_lt_two_pow (by omega) (by omega)
  show d9.wrap ((gv 64 (a:Int) ||| gv 64 (b:Int)).toNat:Int)=_;rw [BitVec.toNat_or,lh,lh];rw [show ((a:Int) % ((2 ^ 64:Nat):Int)).toNat=a by omega,show ((b:Int) % ((2 ^ 64:Nat):Int)).toNat=b by omega];exact wr64 (by omega)
theorem yh3 {a b:Nat} (ha:a<9223372036854775808) (hb:b<9223372036854775808):z79 .i64 (a:Int) (b:Int)=((a - (a &&& b):Nat):Int):=yds ha hb
theorem own:ownKnob Tryz.prog.godebug=none:=by kernel_rfl
theorem zwa:laidOutB Tryz.prog=true:=by kernel_rfl
def inI (x:Int):Prop:=-9223372036854775808<=x/\x<=9223372036854775807
theorem yml {x:Int} (h:(Lit.int .i64 x).wf=true):inI x:=by
  simp only [Lit.wf,decide_eq_true_eq,IntKind.wrap,IntKind.bits,IntKind.signed] at h;simp at h;have e1:d9.min=-9223372036854775808:=by decide
  have e2:d9.max=9223372036854775807:=by decide
  unfold inI;omega
theorem cf_i {t:T} (h:conf (.int .i64) t):∃ n,t=.int .i64 n/\inI n:=by
  obtain ⟨n,rfl,hw⟩:=h;exact ⟨n,rfl,yml hw⟩
theorem yq0 {t:T} (h:conf .bool t):∃ b,t=.bool b/\True:=by
  obtain ⟨b,rfl⟩:=h;exact ⟨b,rfl,trivial⟩
theorem z54 {t:T} (h:conf .str t):∃ s,t=.str s/\s.size<big:=by
  obtain ⟨s,rfl,hs⟩:=h;have hm:maxLen<big:=by decide
  exact ⟨s,rfl,by omega⟩
theorem yjj {n:Nat} {t:T} (h:conf (.arr .i64 n) t):∃ a:Ar n,t=.agg (a.l.map (d7 .i64))/\∀ y,y∈a.l->inI y:=by
  obtain ⟨a,rfl,hw⟩:=h;exact ⟨a,rfl,fun y hy=>yml (hw y hy)⟩
theorem zjj {α:Type} {f:α->T} {sh:Sh} {p:α->Prop} (hf:∀ t,conf sh t->∃ x,t=f x/\p x) {t:T} (h:conf (.slice sh) t):∃ l:List α,t=.lst sh.sz (l.map f)/\(l.length<big/\∀ x,x∈l->p x):=by
  obtain ⟨l,rfl,hl,hall⟩:=h;have hm:maxLen<big:=by decide
  have key:∀ l:List T,(∀ x,x∈l->conf sh x)->∃ m:List α,l=m.map f/\∀ x,x∈m->p x:=by
    intro l
    induction l with
    |nil=>intro _;exact ⟨[],rfl,fun x hx=>by simp at hx⟩
    |cons t l ih =>
      intro hc;obtain ⟨x,rfl,hp⟩:=hf t (hc t (by simp));obtain ⟨m,rfl,hm⟩:=ih fun y hy=>hc y (by simp [hy]);refine ⟨x :: m,rfl,fun y hy=>?_⟩;rcases ic.1 hy with rfl|hy
      . exact hp
      . exact hm y hy
  obtain ⟨m,rfl,hp⟩:=key l hall;rw [ek] at hl;exact ⟨m,rfl,by omega,hp⟩
def zyx:Sh:=.struct [.str,.bool,(.int .i64),(.int .i64)]
def ymn (x:Node):Prop:=x.name.size<big/\True/\inI x.rules/\inI x.entries
theorem yq3 {t:T} (h:conf zyx t):∃ x:Node,t=zrr x/\ymn x:=by
  obtain ⟨cs,rfl,x0,r0,rfl,h0,x1,r1,rfl,h1,x2,r2,rfl,h2,x3,r3,rfl,h3,rfl⟩:=h;obtain ⟨a0,rfl,q0⟩:=z54 h0;obtain ⟨a1,rfl,q1⟩:=yq0 h1;obtain ⟨a2,rfl,q2⟩:=cf_i h2;obtain ⟨a3,rfl,q3⟩:=cf_i h3;exact ⟨⟨a0,a1,a2,a3⟩,by first | (simp only [zrr,gt,pg,nl,zyx,fp,fq,fb,ey,ii,ed];done) | (simp only [zrr,gt,pg,nl,zyx,fp,fq,fb,ey,ii,ed];rfl),q0,q1,q2,q3⟩
def z9e:Sh:=.struct [(.int .i64),(.int .i64),(.int .i64),(.int .i64),(.int .i64),(.int .i64)]
def ymm (x:Offl):Prop:=inI x.node/\inI x.port/\inI x.tag/\inI x.out/\inI x.back/\inI x.first
theorem yq2 {t:T} (h:conf z9e t):∃ x:Offl,t=zrq x/\ymm x:=by
  obtain ⟨cs,rfl,x0,r0,rfl,h0,x1,r1,rfl,h1,x2,r2,rfl,h2,x3,r3,rfl,h3,x4,r4,rfl,h4,x5,r5,rfl,h5,rfl⟩:=h;obtain ⟨a0,rfl,q0⟩:=cf_i h0;obtain ⟨a1,rfl,q1⟩:=cf_i h1;obtain ⟨a2,rfl,q2⟩:=cf_i h2;obtain ⟨a3,rfl,q3⟩:=cf_i h3;obtain ⟨a4,rfl,q4⟩:=cf_i h4;obtain ⟨a5,rfl,q5⟩:=cf_i h5;exact ⟨⟨a0,a1,a2,a3,a4,a5⟩,by first | (simp only [zrq,gt,pg,nl,z9e,fp,fq,fb,ey,ii,ed];done) | (simp only [zrq,gt,pg,nl,z9e,fp,fq,fb,ey,ii,ed];rfl),q0,q1,q2,q3,q4,q5⟩
def zyy:Sh:=.struct [(.int .i64),(.int .i64),(.int .i64)]
def ymo (x:Link):Prop:=inI x.frm/\inI x.to/\inI x.cap
theorem yq4 {t:T} (h:conf zyy t):∃ x:Link,t=zrs x/\ymo x:=by
  obtain ⟨cs,rfl,x0,r0,rfl,h0,x1,r1,rfl,h1,x2,r2,rfl,h2,rfl⟩:=h;obtain ⟨a0,rfl,q0⟩:=cf_i h0;obtain ⟨a1,rfl,q1⟩:=cf_i h1;obtain ⟨a2,rfl,q2⟩:=cf_i h2;exact ⟨⟨a0,a1,a2⟩,by first | (simp only [zrs,gt,pg,nl,zyy,fp,fq,fb,ey,ii,ed];done) | (simp only [zrs,gt,pg,nl,zyy,fp,fq,fb,ey,ii,ed];rfl),q0,q1,q2⟩
def zyz:Sh:=.struct [.str,(.int .i64)]
def ymp (x:Edge):Prop:=x.name.size<big/\inI x.node
theorem yq5 {t:T} (h:conf zyz t):∃ x:Edge,t=zrt x/\ymp x:=by
  obtain ⟨cs,rfl,x0,r0,rfl,h0,x1,r1,rfl,h1,rfl⟩:=h;obtain ⟨a0,rfl,q0⟩:=z54 h0;obtain ⟨a1,rfl,q1⟩:=cf_i h1;exact ⟨⟨a0,a1⟩,by first | (simp only [zrt,gt,pg,nl,zyz,fp,fq,fb,ey,ii,ed];done) | (simp only [zrt,gt,pg,nl,zyz,fp,fq,fb,ey,ii,ed];rfl),q0,q1⟩
def ykn:Sh:=.struct [(.slice zyx),(.slice zyy),(.slice zyz)]
def ypl (x:Net):Prop:=(x.nodes.length<big/\∀ y,y∈x.nodes->ymn y)/\(x.links.length<big/\∀ y,y∈x.links->ymo y)/\(x.edges.length<big/\∀ y,y∈x.edges->ymp y)
theorem ys7 {t:T} (h:conf ykn t):∃ x:Net,t=eNet x/\ypl x:=by
  obtain ⟨cs,rfl,x0,r0,rfl,h0,x1,r1,rfl,h1,x2,r2,rfl,h2,rfl⟩:=h;obtain ⟨a0,rfl,q0⟩:=zjj (fun _ hh=>yq3 hh) h0;obtain ⟨a1,rfl,q1⟩:=zjj (fun _ hh=>yq4 hh) h1;obtain ⟨a2,rfl,q2⟩:=zjj (fun _ hh=>yq5 hh) h2;exact ⟨⟨a0,a1,a2⟩,by first | (simp only [eNet,zax,zrr,zay,zrs,zaz,zrt,gt,pg,nl,ykn,zyx,zyy,zyz,fp,fq,fb,ey,ii,ed];done) | (simp only [eNet,zax,zrr,zay,zrs,zaz,zrt,gt,pg,nl,ykn,zyx,zyy,zyz,fp,fq,fb,ey,ii,ed];rfl),q0,q1,q2⟩
def zr9:Sh:=.struct [(.int .i64),.str,(.slice .str),.str,(.int .i64),(.int .i64)]
def yd8 (x:zxo):Prop:=inI x.kind/\x.var.size<big/\(x.key.length<big/\∀ y,y∈x.key->y.size<big)/\x.field.size<big/\inI x.n/\inI x.m
theorem yl3 {t:T} (h:conf zr9 t):∃ x:zxo,t=zkt x/\yd8 x:=by
  obtain ⟨cs,rfl,x0,r0,rfl,h0,x1,r1,rfl,h1,x2,r2,rfl,h2,x3,r3,rfl,h3,x4,r4,rfl,h4,x5,r5,rfl,h5,rfl⟩:=h;obtain ⟨a0,rfl,q0⟩:=cf_i h0;obtain ⟨a1,rfl,q1⟩:=z54 h1;obtain ⟨a2,rfl,q2⟩:=zjj (fun _ hh=>z54 hh) h2;obtain ⟨a3,rfl,q3⟩:=z54 h3;obtain ⟨a4,rfl,q4⟩:=cf_i h4;obtain ⟨a5,rfl,q5⟩:=cf_i h5;exact ⟨⟨a0,a1,a2,a3,a4,a5⟩,by first | (simp only [zkt,strs,gt,pg,nl,zr9,fp,fq,fb,ey,ii,ed];done) | (simp only [zkt,strs,gt,pg,nl,zr9,fp,fq,fb,ey,ii,ed];rfl),q0,q1,q2,q3,q4,q5⟩
def zu3:Sh:=.struct [(.arr .i64 10),(.arr .i64 10)]
def ypk (x:Pat):Prop:=(∀ y,y∈x.mask.l->inI y)/\(∀ y,y∈x.bits.l->inI y)
theorem yo3 {t:T} (h:conf zu3 t):∃ x:Pat,t=ePat x/\ypk x:=by
  obtain ⟨cs,rfl,x0,r0,rfl,h0,x1,r1,rfl,h1,rfl⟩:=h;obtain ⟨a0,rfl,q0⟩:=yjj h0;obtain ⟨a1,rfl,q1⟩:=yjj h1;exact ⟨⟨a0,a1⟩,by first | (simp only [ePat,gt,pg,nl,zu3,fp,fq,fb,ey,ii,ed];done) | (simp only [ePat,gt,pg,nl,zu3,fp,fq,fb,ey,ii,ed];rfl),q0,q1⟩
def z3k:Sh:=.struct [(.int .i64),zu3]
def yrl (x:Alt):Prop:=inI x.link/\ypk x.mod
theorem ys8 {t:T} (h:conf z3k t):∃ x:Alt,t=eAlt x/\yrl x:=by
  obtain ⟨cs,rfl,x0,r0,rfl,h0,x1,r1,rfl,h1,rfl⟩:=h;obtain ⟨a0,rfl,q0⟩:=cf_i h0;obtain ⟨a1,rfl,q1⟩:=yo3 h1;exact ⟨⟨a0,a1⟩,by first | (simp only [eAlt,ePat,gt,pg,nl,z3k,zu3,fp,fq,fb,ey,ii,ed];done) | (simp only [eAlt,ePat,gt,pg,nl,z3k,zu3,fp,fq,fb,ey,ii,ed];rfl),q0,q1⟩
def zyw:Sh:=.struct [(.int .i64),zu3,(.int .i64),(.slice (.slice z3k))]
def yd9 (x:Rule):Prop:=inI x.prio/\ypk x.mat/\inI x.step/\(x.outs.length<big/\∀ y,y∈x.outs->(y.length<big/\∀ y',y'∈y->yrl y'))
theorem yq1 {t:T} (h:conf zyw t):∃ x:Rule,t=zao x/\yd9 x:=by
  obtain ⟨cs,rfl,x0,r0,rfl,h0,x1,r1,rfl,h1,x2,r2,rfl,h2,x3,r3,rfl,h3,rfl⟩:=h;obtain ⟨a0,rfl,q0⟩:=cf_i h0;obtain ⟨a1,rfl,q1⟩:=yo3 h1;obtain ⟨a2,rfl,q2⟩:=cf_i h2;obtain ⟨a3,rfl,q3⟩:=zjj (fun _ hh=>zjj (fun _ hh=>ys8 hh) hh) h3;exact ⟨⟨a0,a1,a2,a3⟩,by first | (simp only [zao,ePat,zbp,lAlt,eAlt,gt,pg,nl,zyw,zu3,z3k,fp,fq,fb,ey,ii,ed];done) | (simp only [zao,ePat,zbp,lAlt,eAlt,gt,pg,nl,zyw,zu3,z3k,fp,fq,fb,ey,ii,ed];rfl),q0,q1,q2,q3⟩
def ztz:Sh:=.struct [(.int .i64),(.slice (.slice zyw)),(.slice zr9)]
def z0v (x:zbc):Prop:=inI x.version/\(x.tables.length<big/\∀ y,y∈x.tables->(y.length<big/\∀ y',y'∈y->yd9 y'))/\(x.steps.length<big/\∀ y,y∈x.steps->yd8 y)
theorem yjk {t:T} (h:conf ztz t):∃ x:zbc,t=zg9 x/\z0v x:=by
  obtain ⟨cs,rfl,x0,r0,rfl,h0,x1,r1,rfl,h1,x2,r2,rfl,h2,rfl⟩:=h;obtain ⟨a0,rfl,q0⟩:=cf_i h0;obtain ⟨a1,rfl,q1⟩:=zjj (fun _ hh=>zjj (fun _ hh=>yq1 hh) hh) h1;obtain ⟨a2,rfl,q2⟩:=zjj (fun _ hh=>yl3 hh) h2;exact ⟨⟨a0,a1,a2⟩,by first | (simp only [zg9,zau,zas,zao,zat,zkt,gt,pg,nl,ztz,zu3,z3k,zyw,zr9,fp,fq,fb,ey,ii,ed];done) | (simp only [zg9,zau,zas,zao,zat,zkt,gt,pg,nl,ztz,zu3,z3k,zyw,zr9,fp,fq,fb,ey,ii,ed];rfl),q0,q1,q2⟩
def zcc (k:Nat) (h_:Ar 10):Nat->Int->Option (Bool ⊕ Unit)
 |0,_=>none
 |m+1,i=>(if i<10 then (if 0<=i/\i<(10:Int) then (if (gx h_.l i)<0 then some (.inl false) else (if 65535<(gx h_.l i) then some (.inl false) else zcc k h_ m (d9.wrap (i+1)))) else none) else some (.inr ()))
def zek (k:Nat) (h_:Ar 10):Option Bool:=((zcc k h_ k 0:Option (Bool ⊕ Unit)).bind fun o=>i9 (fun r=>some r) (fun s_=>some true) o)
theorem zid (ax:Axs) (hx:NoAx ax) (k:Nat) (h_:Ar 10) (v:Bool) (H:zek k h_=some v):Pure Tryz.prog (EE ax) [] 27 [.agg (h_.l.map (d7 .i64))] (.bool v):=by
 rw [zek] at H;refine en [.tmp 2] 18 [0] (hx.no _ (by decide)) (fn27 ax) ?_;intro h hh;apply d6;refine rk [1] [] hh fun h hh=>?_;repeat apply d6
 refine rk [1,3] [] hh fun h hh=>?_;obtain ⟨o,H1,H⟩:=zad H;refine cu [] 1 (fun h bs=>∃ s_:Unit,o=.inr s_/\(True)/\bs=[.cells true 10 (h_.l.map (d7 .i64))]) ?_ ?_
 .skip;apply fo;refine iw [1,3] (fun m h bs=>∃ (i:Int),zcc k h_ m i=some o/\(h 1=.ptr 0 0 10/\h 3=.int .i64 i)/\bs=[.cells true 10 (h_.l.map (d7 .i64))]) ?_ k _ _ ?_;rotate_left
  .exact ⟨0,H1,kq hh,rfl⟩
  clear hh h H1;rintro m h bs ⟨i,H1,hh,rfl⟩;rcases m with _|m
  .rw [zcc] at H1;cases H1
  rw [zcc] at H1;repeat apply d6
  refine rk [1,3,5] [] hh fun h hh=>?_;rcases isp H1 with ⟨c1,H1⟩|⟨c1,H1⟩;rotate_left
  .skip;refine cf (f2 hh (zAb c1)) ?_;refine xk ?_;cases H1;exact ce hh ⟨_,rfl,kq hh,rfl⟩
  refine ct (f2 hh (zAa c1)) ?_;refine sk ?_;apply d6;apply fo;obtain ⟨g2,H1⟩:=isg H1;rcases isp H1 with ⟨c3,H1⟩|⟨c3,H1⟩;rotate_left
  .skip;apply d6;refine rk [1,3,17] [] (f3 hh (zAb c3) (arIx h_ g2)) fun h hh=>?_;rcases isp H1 with ⟨c4,H1⟩|⟨c4,H1⟩;rotate_left
   .skip;refine cf (f2 hh (zAb c4)) ?_;refine sk ?_;refine rk [1,3] [] hh fun h hh=>?_;exact rd m hh ⟨(d9.wrap (i+1)),H1,kq hh,rfl⟩
   refine ct (f2 hh (zAa c4)) ?_;apply d6;refine rk [2] [] hh fun h hh=>?_;cases H1;obtain rfl:=sinl H;exact rt hh
  apply d6;refine rk [1,3,17] [] (f3 hh (zAa c3) (arIx h_ g2)) fun h hh=>?_;refine ct hh ?_;apply d6;refine rk [2] [] hh fun h hh=>?_;cases H1;obtain rfl:=sinl H;exact rt hh
 clear hh h;rintro h bs ⟨s_,rfl,hh,rfl⟩;replace H:=sinr H;apply d6;refine rk [2] [] hh fun h hh=>?_;cases H;exact rt hh
def zdr (k:Nat) (b:Ar 10) (m_:Ar 10):Nat->Int->Option (Bool ⊕ Unit)
 |0,_=>none
 |m+1,i=>(if i<10 then (if 0<=i/\i<(10:Int) then (if (iAnd .i64 (gx b.l i) (gx m_.l i))≠(gx b.l i) then some (.inl false) else zdr k b m_ m (d9.wrap (i+1))) else none) else some (.inr ()))
def zj2 (k:Nat) (b:Ar 10) (m_:Ar 10):Option Bool:=((zdr k b m_ k 0:Option (Bool ⊕ Unit)).bind fun o=>i9 (fun r=>some r) (fun s_=>some true) o)
theorem zxu (ax:Axs) (hx:NoAx ax) (k:Nat) (b:Ar 10) (m_:Ar 10) (v:Bool) (H:zj2 k b m_=some v):Pure Tryz.prog (EE ax) [] 127 [.agg (b.l.map (d7 .i64)),.agg (m_.l.map (d7 .i64))] (.bool v):=by
 rw [zj2] at H;refine en [.tmp 4] 21 [0,1] (hx.no _ (by decide)) (fn127 ax) ?_;intro h hh;apply d6;refine rk [2,3] [] hh fun h hh=>?_;repeat apply d6
 refine rk [2,3,5] [] hh fun h hh=>?_;obtain ⟨o,H1,H⟩:=zad H;refine cu [] 2 (fun h bs=>∃ s_:Unit,o=.inr s_/\(True)/\bs=[.cells true 10 (b.l.map (d7 .i64)),.cells true 10 (m_.l.map (d7 .i64))]) ?_ ?_
 .skip;apply fo;refine iw [2,3,5] (fun m h bs=>∃ (i:Int),zdr k b m_ m i=some o/\(h 2=.ptr 0 0 10/\h 3=.ptr 1 0 10/\h 5=.int .i64 i)/\bs=[.cells true 10 (b.l.map (d7 .i64)),.cells true 10 (m_.l.map (d7 .i64))]) ?_ k _ _ ?_;rotate_left
  .exact ⟨0,H1,kq hh,rfl⟩
  clear hh h H1;rintro m h bs ⟨i,H1,hh,rfl⟩;rcases m with _|m
  .rw [zdr] at H1;cases H1
  rw [zdr] at H1;repeat apply d6
  refine rk [2,3,5,7] [] hh fun h hh=>?_;rcases isp H1 with ⟨c1,H1⟩|⟨c1,H1⟩;rotate_left
  .skip;refine cf (f2 hh (zAb c1)) ?_;refine xk ?_;cases H1;exact ce hh ⟨_,rfl,kq hh,rfl⟩
  refine ct (f2 hh (zAa c1)) ?_;refine sk ?_;apply d6;apply fo;obtain ⟨g2,H1⟩:=isg H1;apply d6;refine dk 10 [2,3,5,20] [] [] [] (f3 hh (arIx b g2) (arIx m_ g2)) trivial trivial fun h hh=>?_;rcases isp H1 with ⟨c3,H1⟩|⟨c3,H1⟩;rotate_left
  .skip;refine cf (f2 hh (zAb c3)) ?_;refine sk ?_;refine rk [2,3,5] [] hh fun h hh=>?_;exact rd m hh ⟨(d9.wrap (i+1)),H1,kq hh,rfl⟩
  refine ct (f2 hh (zAa c3)) ?_;apply d6;refine rk [4] [] hh fun h hh=>?_;cases H1;obtain rfl:=sinl H;exact rt hh
 clear hh h;rintro h bs ⟨s_,rfl,hh,rfl⟩;replace H:=sinr H;apply d6;refine rk [4] [] hh fun h hh=>?_;cases H;exact rt hh
def zjq (k:Nat) (p:Pat):Option Bool:=((zek k p.mask).bind fun bn=>((zek k p.bits).bind fun co=>(if bn=true then (if co=true then ((zj2 k p.bits p.mask).bind fun cq=>some cq) else some false) else some false)))
theorem zqo (ax:Axs) (hx:NoAx ax) (k:Nat) (p:Pat) (v:Bool) (H:zjq k p=some v):Pure Tryz.prog (EE ax) [] 114 [ePat p] (.bool v):=by
 rw [zjq] at H;refine en [.tmp 2] 22 [0] (hx.no _ (by decide)) (fn114 ax) ?_;intro h hh;apply d6;refine rk [1] [] hh fun h hh=>?_;obtain ⟨bn,e1,H⟩:=zad H;apply d6;refine rkp [1,3] [] [.bool bn] hh ?_ ?_
 .exact ⟨ff ((zid ax hx k p.mask bn e1 ).call _),trivial⟩
 clear hh h;intro h hh;obtain ⟨co,e2,H⟩:=zad H;apply d6;refine rkp [1,3,4] [] [.bool co] hh ?_ ?_
 .exact ⟨ff ((zid ax hx k p.bits co e2 ).call _),trivial⟩
 clear hh h;intro h hh;rcases isb H with ⟨c3,H⟩|⟨c3,H⟩;rotate_left
 .skip;apply d6;refine rk [2] [] (f2 hh c3) fun h hh=>?_;cases H;exact rt hh
 rcases isb H with ⟨c4,H⟩|⟨c4,H⟩;rotate_left
 .skip;apply d6;refine rk [2] [] (f3 hh c3 c4) fun h hh=>?_;cases H;exact rt hh
 obtain ⟨cq,e5,H⟩:=zad H;apply d6;refine rkp [2] [] [.bool cq] (f3 hh c3 c4) ?_ ?_
 .exact ⟨ff (gq (zxu ax hx k p.bits p.mask cq e5 ) (by first|rfl|simp only [c3,c4])),trivial⟩
 clear hh h;intro h hh;cases H;exact rt hh
def zhw (k:Nat) (m_:Pat):Option Bool:=((zjq k (⟨m_.mask,m_.bits⟩:Pat)).bind fun ap=>some ap)
theorem ztw (ax:Axs) (hx:NoAx ax) (k:Nat) (m_:Pat) (v:Bool) (H:zhw k m_=some v):Pure Tryz.prog (EE ax) [] 115 [ePat m_] (.bool v):=by
 rw [zhw] at H;refine en [.tmp 2] 9 [0] (hx.no _ (by decide)) (fn115 ax) ?_;intro h hh;apply d6;refine rk [1] [] hh fun h hh=>?_;obtain ⟨ap,e1,H⟩:=zad H;apply d6;refine rkp [2] [] [.bool ap] hh ?_ ?_
 .exact ⟨ff ((zqo ax hx k (⟨m_.mask,m_.bits⟩:Pat) ap e1 ).call _),trivial⟩
 clear hh h;intro h hh;cases H;exact rt hh
def zdp (k:Nat) (n:Net) (r:Rule) (k_:Int):Nat->Int->Option (Bool ⊕ Unit)
 |0,_=>none
 |m+1,i=>(if 0<=k_/\k_<(r.outs.length:Int) then (if i<((gx r.outs k_).length:Int) then (if 0<=i/\i<((gx r.outs k_).length:Int) then ((zhw k ((gx (gx r.outs k_) i).mod)).bind fun cr=>(if ((gx (gx r.outs k_) i).link)<(-1) then some (.inl false) else (if (n.links.length:Int)<=((gx (gx r.outs k_) i).link) then some (.inl false) else (if cr=true then zdp k n r k_ m (d9.wrap (i+1)) else some (.inl false))))) else none) else some (.inr ())) else none)
def zdq (k:Nat) (n:Net) (r:Rule):Nat->Int->Option (Bool ⊕ Unit)
 |0,_=>none
 |m+1,k_=>(if k_<(r.outs.length:Int) then (((((if 0<=k_/\k_<(r.outs.length:Int) then (if ((gx r.outs k_).length:Int)<1 then some true else some (decide (8<((gx r.outs k_).length:Int)))) else none):Option Bool).bind fun s_4=>(if s_4=true then some (.inl false) else ((zdp k n r k_ k 0:Option (Bool ⊕ Unit)).bind fun o=>i9 (fun r=>some (.inl r)) (fun s_5=>some (.inr ())) o))):Option (Bool ⊕ Unit)).bind fun o2=>i9 (fun r=>some (.inl r)) (fun s_3=>zdq k n r m (d9.wrap (k_+1))) o2) else some (.inr ()))
def zj1 (k:Nat) (n:Net) (steps:Int) (r:Rule):Option Bool:=((zjq k r.mat).bind fun ap=>(((if r.prio<1 then some true else (if 65535<r.prio then some true else (if ap=true then (if r.step<(-1) then some true else (if steps<=r.step then some true else some (decide (16<(r.outs.length:Int))))) else some true))):Option Bool).bind fun s_=>(if s_=true then some false else ((zdq k n r k 0:Option (Bool ⊕ Unit)).bind fun o3=>i9 (fun r=>some r) (fun s_2=>some true) o3))))
theorem zxt (ax:Axs) (hx:NoAx ax) (k:Nat) (n:Net) (steps:Int) (r:Rule) (v:Bool) (H:zj1 k n steps r=some v):Pure Tryz.prog (EE ax) [] 85 [eNet n,.int .i64 steps,zao r] (.bool v):=by
 rw [zj1] at H;refine en [.tmp 6] 103 [0,1,2] (hx.no _ (by decide)) (fn85 ax) ?_;intro h hh;apply d6;refine rk [1,3,5] [] hh fun h hh=>?_;obtain ⟨ap,e1,H⟩:=zad H;apply d6;refine rkp [1,3,5,7] [] [.bool ap] hh ?_ ?_
 .exact ⟨ff ((zqo ax hx k r.mat ap e1 ).call _),trivial⟩
 clear hh h;intro h hh;obtain ⟨s_,H1,H⟩:=zad H;repeat apply d6
 refine cu [3,5,43] 2 (fun h bs=>(h 3=.ptr 0 0 3/\h 5=.ptr 1 0 23/\h 43=.bool s_)/\bs=[.cells true 3 [zax n.nodes,zay n.links,zaz n.edges],.cells true 23 (d7 .i64 r.prio :: (r.mat.mask.l.map (d7 .i64)++(r.mat.bits.l.map (d7 .i64)++[d7 .i64 r.step,zbp r.outs])))]) ?_ ?_
 .skip;rcases isp H1 with ⟨c2,H1⟩|⟨c2,H1⟩;rotate_left
  .skip;rcases isp H1 with ⟨c3,H1⟩|⟨c3,H1⟩;rotate_left
   .skip;rcases isb H1 with ⟨c4,H1⟩|⟨c4,H1⟩;rotate_left
    .skip;refine rk [3,5,43] [] (f3 hh (zAb c2) (f2 (zAb c3) c4)) fun h hh=>?_;cases H1;exact ce hh ⟨kq hh,rfl⟩
    rcases isp H1 with ⟨c5,H1⟩|⟨c5,H1⟩;rotate_left
    .skip;rcases isp H1 with ⟨c6,H1⟩|⟨c6,H1⟩;rotate_left
     .skip;refine rk [3,5,43] [] (f3 hh (zAb c2) (f3 (zAb c3) c4 (f2 (zAb c5) (zAb c6)))) fun h hh=>?_;cases H1;exact ce hh ⟨kq hh,rfl⟩
     refine rk [3,5,43] [] (f3 hh (zAb c2) (f3 (zAb c3) c4 (f2 (zAb c5) (zAa c6)))) fun h hh=>?_;cases H1;exact ce hh ⟨kq hh,rfl⟩
    refine rk [3,5,43] [] (f3 hh (zAb c2) (f3 (zAb c3) c4 (zAa c5))) fun h hh=>?_;cases H1;exact ce hh ⟨kq hh,rfl⟩
   refine rk [3,5,43] [] (f3 hh (zAb c2) (zAa c3)) fun h hh=>?_;cases H1;exact ce hh ⟨kq hh,rfl⟩
  refine rk [3,5,43] [] (f2 hh (zAa c2)) fun h hh=>?_;cases H1;exact ce hh ⟨kq hh,rfl⟩
 clear hh h;rintro h bs ⟨hh,rfl⟩;rcases isb H with ⟨c7,H⟩|⟨c7,H⟩;rotate_left
 .skip;refine cf (f2 hh c7) ?_;refine sk ?_;repeat apply d6
  refine rk [3,5,8] [] (f2 hh c7) fun h hh=>?_;obtain ⟨o3,H1,H⟩:=zad H;refine cu [] 2 (fun h bs=>∃ s_2:Unit,o3=.inr s_2/\(True)/\bs=[.cells true 3 [zax n.nodes,zay n.links,zaz n.edges],.cells true 23 (d7 .i64 r.prio :: (r.mat.mask.l.map (d7 .i64)++(r.mat.bits.l.map (d7 .i64)++[d7 .i64 r.step,zbp r.outs])))]) ?_ ?_
  .skip;apply fo;refine iw [3,5,8] (fun m h bs=>∃ (k_:Int),zdq k n r m k_=some o3/\(h 3=.ptr 0 0 3/\h 5=.ptr 1 0 23/\h 8=.int .i64 k_)/\bs=[.cells true 3 [zax n.nodes,zay n.links,zaz n.edges],.cells true 23 (d7 .i64 r.prio :: (r.mat.mask.l.map (d7 .i64)++(r.mat.bits.l.map (d7 .i64)++[d7 .i64 r.step,zbp r.outs])))]) ?_ k _ _ ?_;rotate_left
   .exact ⟨0,H1,kq hh,rfl⟩
   clear hh h H1;rintro m h bs ⟨k_,H1,hh,rfl⟩;rcases m with _|m
   .rw [zdq] at H1;cases H1
   rw [zdq] at H1;repeat apply d6
   refine rk [3,5,8,48] [] (f2 hh c7) fun h hh=>?_;rcases isp H1 with ⟨c8,H1⟩|⟨c8,H1⟩;rotate_left
   .skip;refine cf (f2 hh (zAb c8)) ?_;refine xk ?_;cases H1;exact ce hh ⟨_,rfl,kq hh,rfl⟩
   refine ct (f2 hh (zAa c8)) ?_;refine sk ?_;obtain ⟨o2,H2,H1⟩:=zad H1;apply d6;refine cu [3,5,8] 2 (fun h bs=>∃ s_3:Unit,o2=.inr s_3/\(h 3=.ptr 0 0 3/\h 5=.ptr 1 0 23/\h 8=.int .i64 k_)/\bs=[.cells true 3 [zax n.nodes,zay n.links,zaz n.edges],.cells true 23 (d7 .i64 r.prio :: (r.mat.mask.l.map (d7 .i64)++(r.mat.bits.l.map (d7 .i64)++[d7 .i64 r.step,zbp r.outs])))]) ?_ ?_
   .skip;apply fo;obtain ⟨s_4,H3,H2⟩:=zad H2;repeat apply d6
    refine cu [3,5,8,66] 2 (fun h bs=>(h 3=.ptr 0 0 3/\h 5=.ptr 1 0 23/\h 8=.int .i64 k_/\h 66=.bool s_4)/\bs=[.cells true 3 [zax n.nodes,zay n.links,zaz n.edges],.cells true 23 (d7 .i64 r.prio :: (r.mat.mask.l.map (d7 .i64)++(r.mat.bits.l.map (d7 .i64)++[d7 .i64 r.step,zbp r.outs])))]) ?_ ?_
    .skip;obtain ⟨g9,H3⟩:=isg H3;rcases isp H3 with ⟨c10,H3⟩|⟨c10,H3⟩;rotate_left
     .skip;refine rk [3,5,8,66] [] (f3 hh (zAb c10) (f2 c7 (zah g9))) fun h hh=>?_;cases H3;exact ce hh ⟨kq hh,rfl⟩
     refine rk [3,5,8,66] [] (f3 hh (zAa c10) (f2 c7 (zah g9))) fun h hh=>?_;cases H3;exact ce hh ⟨kq hh,rfl⟩
    clear hh h;rintro h bs ⟨hh,rfl⟩;rcases isb H2 with ⟨c11,H2⟩|⟨c11,H2⟩;rotate_left
    .skip;refine cf (f2 hh c11) ?_;refine sk ?_;apply d6;refine rk [3,5,8,9] [] (f3 hh c7 c11) fun h hh=>?_;obtain ⟨o,H3,H2⟩:=zad H2;refine cu [3,5,8] 2 (fun h bs=>∃ s_5:Unit,o=.inr s_5/\(h 3=.ptr 0 0 3/\h 5=.ptr 1 0 23/\h 8=.int .i64 k_)/\bs=[.cells true 3 [zax n.nodes,zay n.links,zaz n.edges],.cells true 23 (d7 .i64 r.prio :: (r.mat.mask.l.map (d7 .i64)++(r.mat.bits.l.map (d7 .i64)++[d7 .i64 r.step,zbp r.outs])))]) ?_ ?_
     .skip;apply fo;refine iw [3,5,8,9] (fun m h bs=>∃ (i:Int),zdp k n r k_ m i=some o/\(h 3=.ptr 0 0 3/\h 5=.ptr 1 0 23/\h 8=.int .i64 k_/\h 9=.int .i64 i)/\bs=[.cells true 3 [zax n.nodes,zay n.links,zaz n.edges],.cells true 23 (d7 .i64 r.prio :: (r.mat.mask.l.map (d7 .i64)++(r.mat.bits.l.map (d7 .i64)++[d7 .i64 r.step,zbp r.outs])))]) ?_ k _ _ ?_;rotate_left
      .exact ⟨0,H3,kq hh,rfl⟩
      clear hh h H3;rintro m h bs ⟨i,H3,hh,rfl⟩;rcases m with _|m
      .rw [zdp] at H3;cases H3
      rw [zdp] at H3;obtain ⟨g12,H3⟩:=isg H3;repeat apply d6
      refine rk [3,5,8,9,74] [] (f3 hh c7 (f2 c11 (zah g12))) fun h hh=>?_;rcases isp H3 with ⟨c13,H3⟩|⟨c13,H3⟩;rotate_left
      .skip;refine cf (f2 hh (zAb c13)) ?_;refine xk ?_;cases H3;exact ce hh ⟨_,rfl,kq hh,rfl⟩
      refine ct (f2 hh (zAa c13)) ?_;refine sk ?_;apply d6;apply fo;obtain ⟨g14,H3⟩:=isg H3;apply d6;refine rk [3,5,8,9,10] [] (f3 hh c7 (f3 c11 (zah g12) (zah g14))) fun h hh=>?_;obtain ⟨cr,e15,H3⟩:=zad H3;apply d6;refine rkp [3,5,8,9,10,11] [] [.bool cr] (f3 hh c7 c11) ?_ ?_
      .exact ⟨ff (gq (ztw ax hx k ((gx (gx r.outs k_) i).mod) cr e15 ) (by first|rfl|simp only [c7,c11])),trivial⟩
      clear hh h;intro h hh;rcases isp H3 with ⟨c16,H3⟩|⟨c16,H3⟩;rotate_left
      .skip;rcases isp H3 with ⟨c17,H3⟩|⟨c17,H3⟩;rotate_left
       .skip;apply d6;refine rk [3,5,8,9,102] [] (f3 hh (zAb c16) (f3 (zAb c17) c7 c11)) fun h hh=>?_;rcases isb H3 with ⟨c18,H3⟩|⟨c18,H3⟩;rotate_left
        .skip;refine ct (f2 hh c18) ?_;apply d6;refine rk [6] [] (f3 hh c7 (f2 c11 c18)) fun h hh=>?_;cases H3;obtain rfl:=sinm H2;obtain rfl:=sinm H1;obtain rfl:=sinl H;exact rt hh
        refine cf (f2 hh c18) ?_;refine sk ?_;refine rk [3,5,8,9] [] (f3 hh c7 (f2 c11 c18)) fun h hh=>?_;exact rd m hh ⟨(d9.wrap (i+1)),H3,kq hh,rfl⟩
       apply d6;refine rk [3,5,8,9,102] [] (f3 hh (zAb c16) (f3 (zAa c17) c7 c11)) fun h hh=>?_;refine ct hh ?_;apply d6;refine rk [6] [] (f3 hh c7 c11) fun h hh=>?_;cases H3;obtain rfl:=sinm H2;obtain rfl:=sinm H1;obtain rfl:=sinl H;exact rt hh
      apply d6;refine rk [3,5,8,9,102] [] (f3 hh (zAa c16) (f2 c7 c11)) fun h hh=>?_;refine ct hh ?_;apply d6;refine rk [6] [] (f3 hh c7 c11) fun h hh=>?_;cases H3;obtain rfl:=sinm H2;obtain rfl:=sinm H1;obtain rfl:=sinl H;exact rt hh
     clear hh h;rintro h bs ⟨s_5,rfl,hh,rfl⟩;replace H2:=sinr H2;cases H2;exact ce hh ⟨_,rfl,kq hh,rfl⟩
    refine ct (f2 hh c11) ?_;apply d6;refine rk [6] [] (f3 hh c7 c11) fun h hh=>?_;cases H2;obtain rfl:=sinm H1;obtain rfl:=sinl H;exact rt hh
   clear hh h;rintro h bs ⟨s_3,rfl,hh,rfl⟩;replace H1:=sinr H1;refine rk [3,5,8] [] (f2 hh c7) fun h hh=>?_;exact rd m hh ⟨(d9.wrap (k_+1)),H1,kq hh,rfl⟩
  clear hh h;rintro h bs ⟨s_2,rfl,hh,rfl⟩;replace H:=sinr H;apply d6;refine rk [6] [] (f2 hh c7) fun h hh=>?_;cases H;exact rt hh
 refine ct (f2 hh c7) ?_;apply d6;refine rk [6] [] (f2 hh c7) fun h hh=>?_;cases H;exact rt hh
def zc4 (k:Nat) (n:Net) (steps:Int) (t:List Rule):Nat->Int->Option ((Int×Int) ⊕ Unit)
 |0,_=>none
 |m+1,k_=>(if k_<(t.length:Int) then (if 0<=k_/\k_<(t.length:Int) then ((zj1 k n steps (gx t k_)).bind fun cw=>(if cw=true then (if 0<k_ then (if (0:Int)<=(d9.wrap (k_ - 1))/\(d9.wrap (k_ - 1))<(t.length:Int) then (if ((gx t (d9.wrap (k_ - 1))).prio)<=((gx t k_).prio) then some (.inl (k_,1)) else zc4 k n steps t m (d9.wrap (k_+1))) else none) else zc4 k n steps t m (d9.wrap (k_+1))) else some (.inl (k_,1)))) else none) else some (.inr ()))
def zlg (k:Nat) (n:Net) (steps:Int) (t:List Rule):Option (Int×Int):=(((if steps<0 then some true else some (decide (1000<steps))):Option Bool).bind fun s_=>(if s_=true then some (0,1) else (if 4000<(t.length:Int) then some (0,2) else ((zc4 k n steps t k 0:Option ((Int×Int) ⊕ Unit)).bind fun o=>i9 (fun r=>some r) (fun s_2=>some (0,0)) o))))
theorem z1f (ax:Axs) (hx:NoAx ax) (k:Nat) (n:Net) (steps:Int) (t:List Rule) (v:Int×Int) (H:zlg k n steps t=some v):Pure Tryz.prog (EE ax) [] 43 [eNet n,.int .i64 steps,zas t] (tupT [.int .i64 v.1,.int .i64 v.2]):=by
 rw [zlg] at H;refine enN [.tmp 6,.tmp 7] 53 [0,1,2] (hx.no _ (by decide)) (fn43 ax) ?_;intro h hh;apply d6;refine rk [1,2,3] [] hh fun h hh=>?_;obtain ⟨s_,H1,H⟩:=zad H;repeat apply d6
 refine cu [1,2,3,15] 1 (fun h bs=>(h 1=.int .i64 steps/\h 2=zas t/\h 3=.ptr 0 0 3/\h 15=.bool s_)/\bs=[.cells true 3 [zax n.nodes,zay n.links,zaz n.edges]]) ?_ ?_
 .skip;rcases isp H1 with ⟨c1,H1⟩|⟨c1,H1⟩;rotate_left
  .skip;refine rk [1,2,3,15] [] (f2 hh (zAb c1)) fun h hh=>?_;cases H1;exact ce hh ⟨kq hh,rfl⟩
  refine rk [1,2,3,15] [] (f2 hh (zAa c1)) fun h hh=>?_;cases H1;exact ce hh ⟨kq hh,rfl⟩
 clear hh h;rintro h bs ⟨hh,rfl⟩;rcases isb H with ⟨c2,H⟩|⟨c2,H⟩;rotate_left
 .skip;refine cf (f2 hh c2) ?_;refine sk ?_;repeat apply d6
  refine rk [1,2,3,18] [] (f2 hh c2) fun h hh=>?_;rcases isp H with ⟨c3,H⟩|⟨c3,H⟩;rotate_left
  .skip;refine cf (f2 hh (zAb c3)) ?_;refine sk ?_;repeat apply d6
   refine rk [1,2,3,8] [] (f2 hh c2) fun h hh=>?_;obtain ⟨o,H1,H⟩:=zad H;refine cu [] 1 (fun h bs=>∃ s_2:Unit,o=.inr s_2/\(True)/\bs=[.cells true 3 [zax n.nodes,zay n.links,zaz n.edges]]) ?_ ?_
   .skip;apply fo;refine iw [1,2,3,8] (fun m h bs=>∃ (k_:Int),zc4 k n steps t m k_=some o/\(h 1=.int .i64 steps/\h 2=zas t/\h 3=.ptr 0 0 3/\h 8=.int .i64 k_)/\bs=[.cells true 3 [zax n.nodes,zay n.links,zaz n.edges]]) ?_ k _ _ ?_;rotate_left
    .exact ⟨0,H1,kq hh,rfl⟩
    clear hh h H1;rintro m h bs ⟨k_,H1,hh,rfl⟩;rcases m with _|m
    .rw [zc4] at H1;cases H1
    rw [zc4] at H1;repeat apply d6
    refine rk [1,2,3,8,22] [] (f2 hh c2) fun h hh=>?_;rcases isp H1 with ⟨c4,H1⟩|⟨c4,H1⟩;rotate_left
    .skip;refine cf (f2 hh (zAb c4)) ?_;refine xk ?_;cases H1;exact ce hh ⟨_,rfl,kq hh,rfl⟩
    refine ct (f2 hh (zAa c4)) ?_;refine sk ?_;apply d6;apply fo;obtain ⟨g5,H1⟩:=isg H1;obtain ⟨cw,e6,H1⟩:=zad H1;apply d6;refine dk 6 [1,2,3,8,9] [] [] [(.bool cw,stL [.cells true 3 [zax n.nodes,zay n.links,zaz n.edges]])] (f3 hh c2 (zah g5)) trivial ?_ ?_
    .exact ⟨ff (gq (zxt ax hx k n steps (gx t k_) cw e6 ) (by first|rfl|simp only [c2])),trivial⟩
    clear hh h;intro h hh;rcases isb H1 with ⟨c7,H1⟩|⟨c7,H1⟩;rotate_left
    .skip;apply d6;refine dk 17 [1,2,3,8,51] [] [] [] (f3 hh c7 c2) trivial trivial fun h hh=>?_;refine ct hh ?_;apply d6;refine rk [6,7] [] (f3 hh c2 c7) fun h hh=>?_;cases H1;obtain rfl:=sinl H;exact rt hh
    rcases isp H1 with ⟨c8,H1⟩|⟨c8,H1⟩;rotate_left
    .skip;apply d6;refine dk 17 [1,2,3,8,51] [] [] [] (f3 hh c7 (f2 (zAb c8) c2)) trivial trivial fun h hh=>?_;refine cf hh ?_;refine sk ?_;refine rk [1,2,3,8] [] (f3 hh c2 c7) fun h hh=>?_;exact rd m hh ⟨(d9.wrap (k_+1)),H1,kq hh,rfl⟩
    obtain ⟨g9,H1⟩:=isg H1;apply d6;refine dk 17 [1,2,3,8,51] [] [] [] (f3 hh c7 (f3 (zAa c8) c2 (f2 (zah g5) (zah g9)))) trivial trivial fun h hh=>?_;rcases isp H1 with ⟨c10,H1⟩|⟨c10,H1⟩;rotate_left
    .skip;refine cf (f2 hh (zAb c10)) ?_;refine sk ?_;refine rk [1,2,3,8] [] (f3 hh c2 c7) fun h hh=>?_;exact rd m hh ⟨(d9.wrap (k_+1)),H1,kq hh,rfl⟩
    refine ct (f2 hh (zAa c10)) ?_;apply d6;refine rk [6,7] [] (f3 hh c2 c7) fun h hh=>?_;cases H1;obtain rfl:=sinl H;exact rt hh
   clear hh h;rintro h bs ⟨s_2,rfl,hh,rfl⟩;replace H:=sinr H;apply d6;refine rk [6,7] [] (f2 hh c2) fun h hh=>?_;cases H;exact rt hh
  refine ct (f2 hh (zAa c3)) ?_;apply d6;refine rk [6,7] [] (f2 hh c2) fun h hh=>?_;cases H;exact rt hh
 refine ct (f2 hh c2) ?_;apply d6;refine rk [6,7] [] (f2 hh c2) fun h hh=>?_;cases H;exact rt hh
def za0 (k:Nat) (s1:List (List Alt)) (s2:List (List Alt)) (eq:(List Alt)->(List Alt)->Option Bool):Nat->Int->Option (Bool ⊕ Unit)
 |0,_=>none
 |m+1,i=>(if i<(s1.length:Int) then (if 0<=i/\i<(s1.length:Int) then (if 0<=i/\i<(s2.length:Int) then ((eq (gx s1 i) (gx s2 i)).bind fun r=>(if r=true then za0 k s1 s2 eq m (d9.wrap (i+1)) else some (.inl false))) else none) else none) else some (.inr ()))
def zcy (k:Nat) (s1:List (List Alt)) (s2:List (List Alt)) (eq:(List Alt)->(List Alt)->Option Bool):Option Bool:=(if (s1.length:Int)≠(s2.length:Int) then some false else ((za0 k s1 s2 eq k 0:Option (Bool ⊕ Unit)).bind fun o=>i9 (fun r=>some r) (fun s_=>some true) o))
theorem zkz (ax:Axs) (hx:NoAx ax) (k:Nat) (s1:List (List Alt)) (s2:List (List Alt)) (eq:(List Alt)->(List Alt)->Option Bool) (v:Bool) (H:zcy k s1 s2 eq=some v) (eq_f:Nat) (eq_c:List T) (eq_i:T.idsL 0 eq_c=true) (eq_h:∀ (y0:List Alt) (y1:List Alt) (w:Bool),eq y0 y1=some w->Pure Tryz.prog (EE ax) [] eq_f ([]++[lAlt y0,lAlt y1]++eq_c) (.bool w)):Pure Tryz.prog (EE ax) [] 128 [zbp s1,zbp s2,.fn eq_f [] eq_c] (.bool v):=by
 rw [zcy] at H;refine en (ha:=by simp only [zb2,zc5,idsA,idsB,idsC,eq_i,el]) [.tmp 6] 32 [0,1,2] (hx.no _ (by decide)) (fn128 ax) ?_;intro h hh;apply d6;refine rk [0,1,2] [] hh fun h hh=>?_;repeat apply d6
 refine rk [0,1,2,14] [] hh fun h hh=>?_;rcases isp H with ⟨c1,H⟩|⟨c1,H⟩;rotate_left
 .skip;refine cf (f2 hh (zAb c1)) ?_;refine sk ?_;repeat apply d6
  refine rk [1,2,15,16,17] [] hh fun h hh=>?_;obtain ⟨o,H1,H⟩:=zad H;refine cu [] 0 (fun h bs=>∃ s_:Unit,o=.inr s_/\(True)/\bs=[]) ?_ ?_
  .skip;apply fo;refine iw [1,2,15,16,17] (fun m h bs=>∃ (i:Int),za0 k s1 s2 eq m i=some o/\(h 1=zbp s2/\h 2=.fn eq_f [] eq_c/\h 15=zbp s1/\h 16=.int .i64 (s1.length:Int)/\h 17=.int .i64 i)/\bs=[]) ?_ k _ _ ?_;rotate_left
   .exact ⟨0,H1,kq hh,rfl⟩
   clear hh h H1;rintro m h bs ⟨i,H1,hh,rfl⟩;rcases m with _|m
   .rw [za0] at H1;cases H1
   rw [za0] at H1;apply d6;refine rk [1,2,15,16,17,18] [] hh fun h hh=>?_;rcases isp H1 with ⟨c2,H1⟩|⟨c2,H1⟩;rotate_left
   .skip;apply d6;refine cf (f2 hh (zAb c2)) ?_;refine xk ?_;cases H1;exact ce (f2 hh ((fun m=>zdz (gb m) eq_i))) ⟨_,rfl,kq hh,rfl⟩
   apply d6;refine ct (f2 hh (zAa c2)) ?_;refine sk ?_;apply d6;apply fo;obtain ⟨g3,H1⟩:=isg H1;apply d6;refine rk [1,2,7,8,15,16,17] [] (f2 hh (zah g3)) fun h hh=>?_;obtain ⟨g4,H1⟩:=isg H1;apply d6;refine rk [1,2,8,9,15,16,17] [] (f2 hh (zah g4)) fun h hh=>?_;obtain ⟨r,e5,H1⟩:=zad H1;apply d6;refine rkp [1,2,15,16,17,30] [] [.bool r] hh ?_ ?_
   .exact ⟨ff ((eq_h (gx s1 i) (gx s2 i) r e5).call _),trivial⟩
   clear hh h;intro h hh;rcases isb H1 with ⟨c6,H1⟩|⟨c6,H1⟩;rotate_left
   .skip;refine ct (f2 hh c6) ?_;apply d6;refine rk [6] [] (f2 hh c6) fun h hh=>?_;cases H1;obtain rfl:=sinl H;exact rt hh
   refine cf (f2 hh c6) ?_;refine sk ?_;refine rk [1,2,15,16,17] [] (f2 hh c6) fun h hh=>?_;exact rd m (f2 hh ((fun m=>zdz (gb m) eq_i))) ⟨(d9.wrap (i+1)),H1,kq hh,rfl⟩
  clear hh h;rintro h bs ⟨s_,rfl,hh,rfl⟩;replace H:=sinr H;apply d6;refine rk [6] [] hh fun h hh=>?_;cases H;exact rt hh
 refine ct (f2 hh (zAa c1)) ?_;apply d6;refine rk [6] [] hh fun h hh=>?_;cases H;exact rt hh
def zbt (k:Nat) (s1:List Alt) (s2:List Alt):Nat->Int->Option (Bool ⊕ Unit)
 |0,_=>none
 |m+1,i=>(if i<(s1.length:Int) then (if 0<=i/\i<(s1.length:Int) then (if 0<=i/\i<(s2.length:Int) then (if (gx s1 i)=(gx s2 i) then zbt k s1 s2 m (d9.wrap (i+1)) else some (.inl false)) else none) else none) else some (.inr ()))
def zet (k:Nat) (s1:List Alt) (s2:List Alt):Option Bool:=(if (s1.length:Int)≠(s2.length:Int) then some false else ((zbt k s1 s2 k 0:Option (Bool ⊕ Unit)).bind fun o=>i9 (fun r=>some r) (fun s_=>some true) o))
theorem zo9 (ax:Axs) (hx:NoAx ax) (k:Nat) (s1:List Alt) (s2:List Alt) (v:Bool) (H:zet k s1 s2=some v):Pure Tryz.prog (EE ax) [] 130 [lAlt s1,lAlt s2] (.bool v):=by
 rw [zet] at H;refine en [.tmp 4] 26 [0,1] (hx.no _ (by decide)) (fn130 ax) ?_;intro h hh;apply d6;refine rk [0,1] [] hh fun h hh=>?_;repeat apply d6
 refine rk [0,1,10] [] hh fun h hh=>?_;rcases isp H with ⟨c1,H⟩|⟨c1,H⟩;rotate_left
 .skip;refine cf (f2 hh (zAb c1)) ?_;refine sk ?_;repeat apply d6
  refine rk [0,1,12,13] [] hh fun h hh=>?_;obtain ⟨o,H1,H⟩:=zad H;refine cu [] 0 (fun h bs=>∃ s_:Unit,o=.inr s_/\(True)/\bs=[]) ?_ ?_
  .skip;apply fo;refine iw [0,1,12,13] (fun m h bs=>∃ (i:Int),zbt k s1 s2 m i=some o/\(h 0=lAlt s1/\h 1=lAlt s2/\h 12=.int .i64 (s1.length:Int)/\h 13=.int .i64 i)/\bs=[]) ?_ k _ _ ?_;rotate_left
   .exact ⟨0,H1,kq hh,rfl⟩
   clear hh h H1;rintro m h bs ⟨i,H1,hh,rfl⟩;rcases m with _|m
   .rw [zbt] at H1;cases H1
   rw [zbt] at H1;apply d6;refine rk [0,1,12,13,14] [] hh fun h hh=>?_;rcases isp H1 with ⟨c2,H1⟩|⟨c2,H1⟩;rotate_left
   .skip;apply d6;refine cf (f2 hh (zAb c2)) ?_;refine xk ?_;cases H1;exact ce hh ⟨_,rfl,kq hh,rfl⟩
   apply d6;refine ct (f2 hh (zAa c2)) ?_;refine sk ?_;apply d6;apply fo;apply d6;refine rk [0,1,5,12,13] [] hh fun h hh=>?_;obtain ⟨g3,H1⟩:=isg H1;obtain ⟨g4,H1⟩:=isg H1;apply d6;refine dk 8 [0,1,12,13,24] [] [] [] (f3 hh (zah g3) (f2 (zah g4) ((yti ax (gx s1 i) (gx s2 i)).2))) trivial trivial fun h hh=>?_;rcases isp H1 with ⟨c5,H1⟩|⟨c5,H1⟩;rotate_left
   .skip;refine ct (f2 hh (zAb c5)) ?_;apply d6;refine rk [4] [] hh fun h hh=>?_;cases H1;obtain rfl:=sinl H;exact rt hh
   refine cf (f2 hh (zAa c5)) ?_;refine sk ?_;refine rk [0,1,12,13] [] hh fun h hh=>?_;exact rd m hh ⟨(d9.wrap (i+1)),H1,kq hh,rfl⟩
  clear hh h;rintro h bs ⟨s_,rfl,hh,rfl⟩;replace H:=sinr H;apply d6;refine rk [4] [] hh fun h hh=>?_;cases H;exact rt hh
 refine ct (f2 hh (zAa c1)) ?_;apply d6;refine rk [4] [] hh fun h hh=>?_;cases H;exact rt hh
def zgs (k:Nat) (x:List Alt) (y:List Alt):Option Bool:=((zet k x y).bind fun cx=>some cx)
theorem zk9 (ax:Axs) (hx:NoAx ax) (k:Nat) (x:List Alt) (y:List Alt) (v:Bool) (H:zgs k x y=some v):Pure Tryz.prog (EE ax) [] 129 [lAlt x,lAlt y] (.bool v):=by
 rw [zgs] at H;refine en [.tmp 4] 8 [0,1] (hx.no _ (by decide)) (fn129 ax) ?_;intro h hh;apply d6;refine rk [0,1] [] hh fun h hh=>?_;obtain ⟨cx,e1,H⟩:=zad H;apply d6;refine rkp [4] [] [.bool cx] hh ?_ ?_
 .exact ⟨ff ((zo9 ax hx k x y cx e1 ).call _),trivial⟩
 clear hh h;intro h hh;cases H;exact rt hh
def zio (k:Nat) (a:Rule) (b:Rule):Option Bool:=(if a.step=b.step then ((zcy k a.outs b.outs (fun y y2=>zgs k y y2)).bind fun cy=>some cy) else some false)
theorem zuw (ax:Axs) (hx:NoAx ax) (k:Nat) (a:Rule) (b:Rule) (v:Bool) (H:zio k a b=some v):Pure Tryz.prog (EE ax) [] 116 [zao a,zao b] (.bool v):=by
 rw [zio] at H;refine en [.tmp 4] 17 [0,1] (hx.no _ (by decide)) (fn116 ax) ?_;intro h hh;apply d6;refine rk [2,3] [] hh fun h hh=>?_;rcases isp H with ⟨c1,H⟩|⟨c1,H⟩;rotate_left
 .skip;apply d6;refine rk [4] [] (f2 hh (zAb c1)) fun h hh=>?_;cases H;exact rt hh
 obtain ⟨cy,e2,H⟩:=zad H;apply d6;refine rkp [4] [] [.bool cy] (f2 hh (zAa c1)) ?_ ?_
 .exact ⟨ff ((zkz ax hx k a.outs b.outs (fun y y2=>zgs k y y2) cy e2 129 [] (by simp only [zb2,zc5,idsA,idsB,idsC,el]) (fun y y2 w hw=>by first|exact zk9 ax hx k y y2 w hw|exact (zk9 ax hx k y y2 w hw))).call _),trivial⟩
 clear hh h;intro h hh;cases H;exact rt hh
def zfy (k:Nat) (a:Rule) (b:Rule):Option Bool:=(if a.prio=b.prio then (if a.mat=b.mat then ((zio k a b).bind fun aq=>some aq) else some false) else some false)
theorem zqi (ax:Axs) (hx:NoAx ax) (k:Nat) (a:Rule) (b:Rule) (v:Bool) (H:zfy k a b=some v):Pure Tryz.prog (EE ax) [] 87 [zao a,zao b] (.bool v):=by
 rw [zfy] at H;refine en [.tmp 4] 22 [0,1] (hx.no _ (by decide)) (fn87 ax) ?_;intro h hh;apply d6;refine rk [2,3] [] hh fun h hh=>?_;rcases isp H with ⟨c1,H⟩|⟨c1,H⟩;rotate_left
 .skip;apply d6;refine rk [4] [] (f2 hh (zAb c1)) fun h hh=>?_;cases H;exact rt hh
 rcases isp H with ⟨c2,H⟩|⟨c2,H⟩;rotate_left
 .skip;apply d6;refine rk [4] [] (f3 hh (zAa c1) (f2 (zAb c2) ((ymf ax a.mat b.mat).1))) fun h hh=>?_;cases H;exact rt hh
 obtain ⟨aq,e3,H⟩:=zad H;apply d6;refine rkp [4] [] [.bool aq] (f3 hh (zAa c1) (f2 (zAa c2) ((ymf ax a.mat b.mat).1))) ?_ ?_
 .exact ⟨ff ((zuw ax hx k a b aq e3 ).call _),trivial⟩
 clear hh h;intro h hh;cases H;exact rt hh
def zcp (k:Nat) (a:Rule) (b:Rule) (k_:Int):Nat->Int->Option (Bool ⊕ Unit)
 |0,_=>none
 |m+1,i=>(if i<((gx a.outs k_).length:Int) then (if 0<=i/\i<((gx a.outs k_).length:Int) then (if 0<=i/\i<((gx b.outs k_).length:Int) then (if (gx (gx a.outs k_) i)=(gx (gx b.outs k_) i) then zcp k a b k_ m (d9.wrap (i+1)) else some (.inl false)) else none) else none) else some (.inr ()))
def zcq (k:Nat) (a:Rule) (b:Rule):Nat->Int->Option (Bool ⊕ Unit)
 |0,_=>none
 |m+1,k_=>(if k_<(a.outs.length:Int) then (((if 0<=k_/\k_<(a.outs.length:Int) then (if 0<=k_/\k_<(b.outs.length:Int) then (if ((gx a.outs k_).length:Int)≠((gx b.outs k_).length:Int) then some (.inl false) else ((zcp k a b k_ k 0:Option (Bool ⊕ Unit)).bind fun o=>i9 (fun r=>some (.inl r)) (fun s_3=>some (.inr ())) o)) else none) else none):Option (Bool ⊕ Unit)).bind fun o2=>i9 (fun r=>some (.inl r)) (fun s_2=>zcq k a b m (d9.wrap (k_+1))) o2) else some (.inr ()))
def zhu (k:Nat) (a:Rule) (b:Rule):Option Bool:=(if (a.outs.length:Int)≠(b.outs.length:Int) then some false else ((zcq k a b k 0:Option (Bool ⊕ Unit)).bind fun o3=>i9 (fun r=>some r) (fun s_=>some true) o3))
theorem ztu (ax:Axs) (hx:NoAx ax) (k:Nat) (a:Rule) (b:Rule) (v:Bool) (H:zhu k a b=some v):Pure Tryz.prog (EE ax) [] 131 [zao a,zao b] (.bool v):=by
 rw [zhu] at H;refine en [.tmp 4] 61 [0,1] (hx.no _ (by decide)) (fn131 ax) ?_;intro h hh;apply d6;refine rk [2,3] [] hh fun h hh=>?_;repeat apply d6
 refine rk [2,3,13] [] hh fun h hh=>?_;rcases isp H with ⟨c1,H⟩|⟨c1,H⟩;rotate_left
 .skip;refine cf (f2 hh (zAb c1)) ?_;refine sk ?_;repeat apply d6
  refine rk [2,3,5] [] hh fun h hh=>?_;obtain ⟨o3,H1,H⟩:=zad H;refine cu [] 2 (fun h bs=>∃ s_:Unit,o3=.inr s_/\(True)/\bs=[.cells true 23 (d7 .i64 a.prio :: (a.mat.mask.l.map (d7 .i64)++(a.mat.bits.l.map (d7 .i64)++[d7 .i64 a.step,zbp a.outs]))),.cells true 23 (d7 .i64 b.prio :: (b.mat.mask.l.map (d7 .i64)++(b.mat.bits.l.map (d7 .i64)++[d7 .i64 b.step,zbp b.outs])))]) ?_ ?_
  .skip;apply fo;refine iw [2,3,5] (fun m h bs=>∃ (k_:Int),zcq k a b m k_=some o3/\(h 2=.ptr 0 0 23/\h 3=.ptr 1 0 23/\h 5=.int .i64 k_)/\bs=[.cells true 23 (d7 .i64 a.prio :: (a.mat.mask.l.map (d7 .i64)++(a.mat.bits.l.map (d7 .i64)++[d7 .i64 a.step,zbp a.outs]))),.cells true 23 (d7 .i64 b.prio :: (b.mat.mask.l.map (d7 .i64)++(b.mat.bits.l.map (d7 .i64)++[d7 .i64 b.step,zbp b.outs])))]) ?_ k _ _ ?_;rotate_left
   .exact ⟨0,H1,kq hh,rfl⟩
   clear hh h H1;rintro m h bs ⟨k_,H1,hh,rfl⟩;rcases m with _|m
   .rw [zcq] at H1;cases H1
   rw [zcq] at H1;repeat apply d6
   refine rk [2,3,5,18] [] hh fun h hh=>?_;rcases isp H1 with ⟨c2,H1⟩|⟨c2,H1⟩;rotate_left
   .skip;refine cf (f2 hh (zAb c2)) ?_;refine xk ?_;cases H1;exact ce hh ⟨_,rfl,kq hh,rfl⟩
   refine ct (f2 hh (zAa c2)) ?_;refine sk ?_;obtain ⟨o2,H2,H1⟩:=zad H1;apply d6;refine cu [2,3,5] 2 (fun h bs=>∃ s_2:Unit,o2=.inr s_2/\(h 2=.ptr 0 0 23/\h 3=.ptr 1 0 23/\h 5=.int .i64 k_)/\bs=[.cells true 23 (d7 .i64 a.prio :: (a.mat.mask.l.map (d7 .i64)++(a.mat.bits.l.map (d7 .i64)++[d7 .i64 a.step,zbp a.outs]))),.cells true 23 (d7 .i64 b.prio :: (b.mat.mask.l.map (d7 .i64)++(b.mat.bits.l.map (d7 .i64)++[d7 .i64 b.step,zbp b.outs])))]) ?_ ?_
   .skip;apply fo;obtain ⟨g3,H2⟩:=isg H2;obtain ⟨g4,H2⟩:=isg H2;repeat apply d6
    refine dk 12 [2,3,5,33] [] [] [] (f3 hh (zah g3) (zah g4)) trivial trivial fun h hh=>?_;rcases isp H2 with ⟨c5,H2⟩|⟨c5,H2⟩;rotate_left
    .skip;refine cf (f2 hh (zAb c5)) ?_;refine sk ?_;apply d6;refine rk [2,3,5,6] [] hh fun h hh=>?_;obtain ⟨o,H3,H2⟩:=zad H2;refine cu [2,3,5] 2 (fun h bs=>∃ s_3:Unit,o=.inr s_3/\(h 2=.ptr 0 0 23/\h 3=.ptr 1 0 23/\h 5=.int .i64 k_)/\bs=[.cells true 23 (d7 .i64 a.prio :: (a.mat.mask.l.map (d7 .i64)++(a.mat.bits.l.map (d7 .i64)++[d7 .i64 a.step,zbp a.outs]))),.cells true 23 (d7 .i64 b.prio :: (b.mat.mask.l.map (d7 .i64)++(b.mat.bits.l.map (d7 .i64)++[d7 .i64 b.step,zbp b.outs])))]) ?_ ?_
     .skip;apply fo;refine iw [2,3,5,6] (fun m h bs=>∃ (i:Int),zcp k a b k_ m i=some o/\(h 2=.ptr 0 0 23/\h 3=.ptr 1 0 23/\h 5=.int .i64 k_/\h 6=.int .i64 i)/\bs=[.cells true 23 (d7 .i64 a.prio :: (a.mat.mask.l.map (d7 .i64)++(a.mat.bits.l.map (d7 .i64)++[d7 .i64 a.step,zbp a.outs]))),.cells true 23 (d7 .i64 b.prio :: (b.mat.mask.l.map (d7 .i64)++(b.mat.bits.l.map (d7 .i64)++[d7 .i64 b.step,zbp b.outs])))]) ?_ k _ _ ?_;rotate_left
      .exact ⟨0,H3,kq hh,rfl⟩
      clear hh h H3;rintro m h bs ⟨i,H3,hh,rfl⟩;rcases m with _|m
      .rw [zcp] at H3;cases H3
      rw [zcp] at H3;repeat apply d6
      refine rk [2,3,5,6,41] [] (f2 hh (zah g3)) fun h hh=>?_;rcases isp H3 with ⟨c6,H3⟩|⟨c6,H3⟩;rotate_left
      .skip;refine cf (f2 hh (zAb c6)) ?_;refine xk ?_;cases H3;exact ce hh ⟨_,rfl,kq hh,rfl⟩
      refine ct (f2 hh (zAa c6)) ?_;refine sk ?_;apply d6;apply fo;obtain ⟨g7,H3⟩:=isg H3;obtain ⟨g8,H3⟩:=isg H3;apply d6;refine dk 16 [2,3,5,6,60] [] [] [] (f3 hh (zah g3) (f3 (zah g7) (zah g4) (f2 (zah g8) ((yti ax (gx (gx a.outs k_) i) (gx (gx b.outs k_) i)).2)))) trivial trivial fun h hh=>?_;rcases isp H3 with ⟨c9,H3⟩|⟨c9,H3⟩;rotate_left
      .skip;refine ct (f2 hh (zAb c9)) ?_;apply d6;refine rk [4] [] hh fun h hh=>?_;cases H3;obtain rfl:=sinm H2;obtain rfl:=sinm H1;obtain rfl:=sinl H;exact rt hh
      refine cf (f2 hh (zAa c9)) ?_;refine sk ?_;refine rk [2,3,5,6] [] hh fun h hh=>?_;exact rd m hh ⟨(d9.wrap (i+1)),H3,kq hh,rfl⟩
     clear hh h;rintro h bs ⟨s_3,rfl,hh,rfl⟩;replace H2:=sinr H2;cases H2;exact ce hh ⟨_,rfl,kq hh,rfl⟩
    refine ct (f2 hh (zAa c5)) ?_;apply d6;refine rk [4] [] hh fun h hh=>?_;cases H2;obtain rfl:=sinm H1;obtain rfl:=sinl H;exact rt hh
   clear hh h;rintro h bs ⟨s_2,rfl,hh,rfl⟩;replace H1:=sinr H1;refine rk [2,3,5] [] hh fun h hh=>?_;exact rd m hh ⟨(d9.wrap (k_+1)),H1,kq hh,rfl⟩
  clear hh h;rintro h bs ⟨s_,rfl,hh,rfl⟩;replace H:=sinr H;apply d6;refine rk [4] [] hh fun h hh=>?_;cases H;exact rt hh
 refine ct (f2 hh (zAa c1)) ?_;apply d6;refine rk [4] [] hh fun h hh=>?_;cases H;exact rt hh
def zld (k:Nat) (a:Rule) (b:Rule):Option Bool:=(if a.step=b.step then ((zhu k a b).bind fun cz=>some cz) else some false)
theorem z1d (ax:Axs) (hx:NoAx ax) (k:Nat) (a:Rule) (b:Rule) (v:Bool) (H:zld k a b=some v):Pure Tryz.prog (EE ax) [] 117 [zao a,zao b] (.bool v):=by
 rw [zld] at H;refine en [.tmp 4] 15 [0,1] (hx.no _ (by decide)) (fn117 ax) ?_;intro h hh;apply d6;refine rk [2,3] [] hh fun h hh=>?_;rcases isp H with ⟨c1,H⟩|⟨c1,H⟩;rotate_left
 .skip;apply d6;refine rk [4] [] (f2 hh (zAb c1)) fun h hh=>?_;cases H;exact rt hh
 obtain ⟨cz,e2,H⟩:=zad H;apply d6;refine rkp [4] [] [.bool cz] (f2 hh (zAa c1)) ?_ ?_
 .exact ⟨ff ((ztu ax hx k a b cz e2 ).call _),trivial⟩
 clear hh h;intro h hh;cases H;exact rt hh
def zhv (k:Nat) (a:Rule) (b:Rule):Option Bool:=(if a.prio=b.prio then (if a.mat=b.mat then ((zld k a b).bind fun aq=>some aq) else some false) else some false)
theorem ztv (ax:Axs) (hx:NoAx ax) (k:Nat) (a:Rule) (b:Rule) (v:Bool) (H:zhv k a b=some v):Pure Tryz.prog (EE ax) [] 88 [zao a,zao b] (.bool v):=by
 rw [zhv] at H;refine en [.tmp 4] 22 [0,1] (hx.no _ (by decide)) (fn88 ax) ?_;intro h hh;apply d6;refine rk [2,3] [] hh fun h hh=>?_;rcases isp H with ⟨c1,H⟩|⟨c1,H⟩;rotate_left
 .skip;apply d6;refine rk [4] [] (f2 hh (zAb c1)) fun h hh=>?_;cases H;exact rt hh
 rcases isp H with ⟨c2,H⟩|⟨c2,H⟩;rotate_left
 .skip;apply d6;refine rk [4] [] (f3 hh (zAa c1) (f2 (zAb c2) ((ymf ax a.mat b.mat).1))) fun h hh=>?_;cases H;exact rt hh
 obtain ⟨aq,e3,H⟩:=zad H;apply d6;refine rkp [4] [] [.bool aq] (f3 hh (zAa c1) (f2 (zAa c2) ((ymf ax a.mat b.mat).1))) ?_ ?_
 .exact ⟨ff ((z1d ax hx k a b aq e3 ).call _),trivial⟩
 clear hh h;intro h hh;cases H;exact rt hh
def zki (k:Nat) (r:Rule):Option Bool:=(if r.step=(-1) then some (decide ((r.outs.length:Int)=0)) else some false)
theorem zux (ax:Axs) (hx:NoAx ax) (k:Nat) (r:Rule) (v:Bool) (H:zki k r=some v):Pure Tryz.prog (EE ax) [] 93 [zao r] (.bool v):=by
 rw [zki] at H;refine en [.tmp 2] 12 [0] (hx.no _ (by decide)) (fn93 ax) ?_;intro h hh;apply d6;refine rk [1] [] hh fun h hh=>?_;rcases isp H with ⟨c1,H⟩|⟨c1,H⟩;rotate_left
 .skip;apply d6;refine rk [2] [] (f2 hh (zAb c1)) fun h hh=>?_;cases H;exact rt hh
 apply d6;refine rk [2] [] (f2 hh (zAa c1)) fun h hh=>?_;cases H;exact rt hh
def zlf (k:Nat) (r:Rule):Option Bool:=(if r.step=(-1) then some (decide ((r.outs.length:Int)=0)) else some false)
theorem z1e (ax:Axs) (hx:NoAx ax) (k:Nat) (r:Rule) (v:Bool) (H:zlf k r=some v):Pure Tryz.prog (EE ax) [] 73 [zao r] (.bool v):=by
 rw [zlf] at H;refine en [.tmp 2] 12 [0] (hx.no _ (by decide)) (fn73 ax) ?_;intro h hh;apply d6;refine rk [1] [] hh fun h hh=>?_;rcases isp H with ⟨c1,H⟩|⟨c1,H⟩;rotate_left
 .skip;apply d6;refine rk [2] [] (f2 hh (zAb c1)) fun h hh=>?_;cases H;exact rt hh
 apply d6;refine rk [2] [] (f2 hh (zAa c1)) fun h hh=>?_;cases H;exact rt hh
theorem gxA {n:Nat} (a:Ar n) {i:Nat} (h:i<n):gx a.l (i:Int)=a.l[i]'(by rw [a.h];exact h):=zca (by rw [a.h];exact h)
theorem ytl {n:Nat} (a:Ar n) (q:Int->Bool):((i7 n).all fun j=>q (gx a.l (j:Int)))=a.l.all q:=by
  rw [Bool.eq_iff_iff,fd,zxk];constructor
  . intro h j hj;have:=h j (jf.2 (by rw [a.h] at hj;exact hj))
    rwa [zca hj] at this
  . intro h j hj;have hj':j<a.l.length:=by rw [a.h];exact jf.1 hj
    rw [zca hj'];exact h j hj'
theorem ybe {α:Type} [DecidableEq α] (a b:List α) (h:a.length=b.length):((i7 a.length).all fun j=>decide (a[j]?=b[j]?))=decide (a=b):=by
  rw [Bool.eq_iff_iff,fd,decide_eq_true_eq];constructor
  . intro hh;apply nv;intro i;by_cases hi:i<a.length
    . have:=hh i (jf.2 hi);simpa using this
    . rw [je (by omega),je (by omega)]
  . rintro rfl j _;simp
theorem lt10 {a:Nat} (h:a<10):(a:Int)<10:=by omega
theorem zae {a b:Nat} (h:a<b):(a:Int)<(b:Int):=by omega
theorem zqd {k:Nat} (a b:List (List Alt)) (f:(List Alt)->(List Alt)->Option Bool) (hf:∀ x,x∈a->∀ y,y∈b->f x y=some (decide (x=y))) (hl:a.length<big) (hk:a.length<k):zcy k a b f=some (decide (a=b)):=by
  unfold zcy;by_cases hlen:a.length=b.length
  . rw [zAd (by omega),ziu (L:=za0 k a b f) a.length false (fun j=>decide (a[j]?=b[j]?)) hl (fun m j h=>by
      have h2:j<b.length:=by omega
      rw [za0,zAc (zae h),zAc ⟨by omega,zae h⟩,zAc ⟨by omega,zae h2⟩,zca h,zca h2];rw [hf _ (ft h) _ (ft h2),dz,ef h,ef h2]
      simp only [dy]) (fun m=>by rw [za0,zAd (by omega)]) hk,ybe a b hlen,dz]
    cases decide (a=b)<;>rfl
  . rw [zAc (by omega)];congr 1;exact (zAb fun h=>hlen (by rw [h])).symm
theorem zx7 {k:Nat} (a b:List Alt) (hl:a.length<big) (hk:a.length<k):zet k a b=some (decide (a=b)):=by
  unfold zet;by_cases hlen:a.length=b.length
  . rw [zAd (by omega),ziu (L:=zbt k a b) a.length false (fun j=>decide (a[j]?=b[j]?)) hl (fun m j h=>by
      have h2:j<b.length:=by omega
      rw [zbt,zAc (zae h),zAc ⟨by omega,zae h⟩,zAc ⟨by omega,zae h2⟩,zca h,zca h2,ef h,ef h2]
      simp only [dy,decide_eq_true_eq]) (fun m=>by rw [zbt,zAd (by omega)]) hk,ybe a b hlen,dz]
    cases decide (a=b)<;>rfl
  . rw [zAc (by omega)];congr 1;exact (zAb fun h=>hlen (by rw [h])).symm
/-! patterns -/
def zbf (x:Int):Bool:=decide (0<=x/\x<=65535)
def zag (h:Ar 10):Bool:=h.l.all zbf
def zr3 (p:Pat):Bool:=(i7 10).all fun i=>decide (iAnd .i64 (gx p.bits.l (i:Int)) (gx p.mask.l (i:Int))=gx p.bits.l (i:Int))
def zak (p:Pat):Bool:=zag p.mask && (zag p.bits && zr3 p)
theorem zjr {x:Int} (h:zbf x=true):∃ n:Nat,x=(n:Int)/\n<65536:=by
  have:=zAe h;exact ⟨x.toNat,by omega,by omega⟩
theorem zmh {h:Ar 10} (hr:zag h=true) {i:Nat} (hi:i<10):∃ n:Nat,gx h.l (i:Int)=(n:Int)/\n<65536:=by
  rw [gxA h hi];exact zjr (fd.1 hr _ (ft _))
theorem zmj {k:Nat} (h:Ar 10) (hk:10<k):zek k h=some (zag h):=by
  unfold zek
  rw [ziu (L:=zcc k h) 10 false (fun i=>zbf (gx h.l (i:Int))) (by decide) (fun m j hj=>by
    rw [zcc,zAc (lt10 hj),zAc ⟨by omega,lt10 hj⟩];unfold zbf;by_cases c1:gx h.l (j:Int)<0
    . rw [zAc c1,zAd (by rw [decide_eq_true_eq];omega)]
    . rw [zAd c1];by_cases c2:65535<gx h.l (j:Int)
      . rw [zAc c2,zAd (by rw [decide_eq_true_eq];omega)]
      . rw [zAd c2,zAc (by rw [decide_eq_true_eq];omega)]) (fun m=>by rw [zcc];exact zAd (by decide)) hk,dz,ytl]
  unfold zag;cases h.l.all zbf<;>rfl
theorem ycz {k:Nat} (p:Pat) (hk:10<k):zj2 k p.bits p.mask=some (zr3 p):=by
  unfold zj2 zr3
  rw [ziu (L:=zdr k p.bits p.mask) 10 false (fun i=>decide (iAnd .i64 (gx p.bits.l (i:Int)) (gx p.mask.l (i:Int))=gx p.bits.l (i:Int))) (by decide) (fun m j hj=>by
    rw [zdr,zAc (lt10 hj),zAc ⟨by omega,lt10 hj⟩];by_cases c:iAnd .i64 (gx p.bits.l (j:Int)) (gx p.mask.l (j:Int))=gx p.bits.l (j:Int)
    . rw [zAd (fun h=>h c),zAc (zAa c)]
    . rw [zAc c,zAd (by rw [decide_eq_true_eq];exact c)]) (fun m=>by rw [zdr];exact zAd (by decide)) hk,dz]
  cases (i7 10).all _<;>rfl
theorem z37 {k:Nat} (p:Pat) (hk:10<k):zjq k p=some (zak p):=by
  unfold zjq zak
  rw [zmj _ hk,zmj _ hk,dz,dz,ycz p hk];cases zag p.mask<;>cases zag p.bits<;>rfl
theorem z36 {k:Nat} (p:Pat) (hk:10<k):zhw k p=some (zak p):=by
  unfold zhw;rw [z37 _ hk];rfl
/-! rules and tables -/
def zia (r:Rule):Prop:=r.outs.length<big/\∀ l,l∈r.outs->l.length<big
def z7r (t:List Rule):Prop:=t.length<big/\∀ r,r∈t->zia r
theorem z6z {k:Nat} (a b:Rule) (ha:zia a) (hk:big<=k):zio k a b=some (decide (a.step=b.step/\a.outs=b.outs)):=by
  unfold zio;rw [zqd a.outs b.outs _ (fun x hx y hy=>by unfold zgs;rw [zx7 x y (ha.2 x hx) (fh (ha.2 x hx) hk)];rfl) ha.1 (fh ha.1 hk)];by_cases c:a.step=b.step
  . rw [zAc c];simp [c]
  . rw [zAd c];simp [c]
theorem zxq {k:Nat} (a b:Rule) (ha:zia a) (hk:big<=k):zfy k a b=some (decide (a=b)):=by
  unfold zfy;rw [z6z a b ha hk];obtain ⟨p,m,s,o⟩:=a;obtain ⟨p2,m2,s2,o2⟩:=b;simp only [Rule.mk.injEq];by_cases c1:p=p2
  . rw [zAc c1];by_cases c2:m=m2
    . rw [zAc c2];simp [c1,c2]
    . rw [zAd c2];simp [c2]
  . rw [zAd c1];simp [c1]
theorem z34 {k:Nat} (a b:Rule) (ha:zia a) (hk:big<=k):zhu k a b=some (decide (a.outs=b.outs)):=by
  unfold zhu;by_cases hlen:a.outs.length=b.outs.length
  . rw [zAd (by omega),ziu (L:=zcq k a b) a.outs.length false (fun j=>decide (a.outs[j]?=b.outs[j]?)) ha.1 (fun m j h=>by
      have h2:j<b.outs.length:=by omega
      rw [zcq,zAc (zae h),zAc ⟨by omega,zae h⟩,zAc ⟨by omega,zae h2⟩,zca h,zca h2];have hx:=ha.2 _ (ft h);rw [ef h,ef h2];by_cases hl2:a.outs[j].length=b.outs[j].length
      . rw [zAd (by omega),ziu (L:=zcp k a b (j:Int)) a.outs[j].length false (fun i=>decide (a.outs[j][i]?=b.outs[j][i]?)) hx (fun m i hi=>by
          have hi2:i<b.outs[j].length:=by omega
          rw [zcp,zca h,zca h2,zAc (zae hi),zAc ⟨by omega,zae hi⟩,zAc ⟨by omega,zae hi2⟩,zca hi,zca hi2,ef hi,ef hi2]
          simp only [dy,decide_eq_true_eq]) (fun m=>by rw [zcp,zca h,zAd (by omega)]) (fh hx hk),ybe _ _ hl2,dz]
        by_cases c:a.outs[j]=b.outs[j]
        . rw [zAa c,zAa (congrArg some c)];rfl
        . rw [zAb c,zAb (fun h=>c (Option.some.inj h))];rfl
      . rw [zAc (by omega),zAb (fun h=>hl2 (by rw [Option.some.inj h]))];rfl) (fun m=>by rw [zcq,zAd (by omega)]) (fh ha.1 hk),ybe _ _ hlen,dz]
    cases decide (a.outs=b.outs)<;>rfl
  . rw [zAc (by omega)];congr 1;exact (zAb fun h=>hlen (by rw [h])).symm
theorem yf2 {k:Nat} (a b:Rule) (ha:zia a) (hk:big<=k):zld k a b=some (decide (a.step=b.step/\a.outs=b.outs)):=by
  unfold zld;rw [z34 a b ha hk];by_cases c:a.step=b.step
  . rw [zAc c];simp [c]
  . rw [zAd c];simp [c]
theorem z35 {k:Nat} (a b:Rule) (ha:zia a) (hk:big<=k):zhv k a b=some (decide (a=b)):=by
  unfold zhv;rw [yf2 a b ha hk];obtain ⟨p,m,s,o⟩:=a;obtain ⟨p2,m2,s2,o2⟩:=b;simp only [Rule.mk.injEq];by_cases c1:p=p2
  . rw [zAc c1];by_cases c2:m=m2
    . rw [zAc c2];simp [c1,c2]
    . rw [zAd c2];simp [c2]
  . rw [zAd c1];simp [c1]
def fAlt (n:Net) (a:Alt):Bool:=decide (-1<=a.link/\a.link<n.links.length) && zak a.mod
def fOut (n:Net) (l:List Alt):Bool:=decide (1<=l.length/\l.length<=8) && l.all (fAlt n)
def zhp (n:Net) (steps:Int) (r:Rule):Bool:=decide (1<=r.prio/\r.prio<=65535) && (zak r.mat && (decide (-1<=r.step/\r.step<steps/\r.outs.length<=16) && r.outs.all (fOut n)))
theorem ycy {k:Nat} (n:Net) (steps:Int) (r:Rule) (hr:zia r) (hk:big<=k):zj1 k n steps r=some (zhp n steps r):=by
  have hk10:10<k:=fh (by decide) hk;unfold zj1 zhp;rw [z37 _ hk10,dz]
  have hloop:zdq k n r k 0=some (if r.outs.all (fOut n)=true then .inr () else .inl false):=by
    refine zkr r.outs false (fOut n) hr.1 (fun m j h=>?_) (fun m=>by rw [zdq,zAd (by omega)]) (fh hr.1 hk);have hx:=hr.2 _ (ft h);rw [zdq,zAc (zae h),zAc ⟨by omega,zae h⟩,zca h];unfold fOut;by_cases c1:(r.outs[j].length:Int)<1
    . rw [zAc c1,zAb (by omega)];rfl
    . rw [zAd c1,dz];by_cases c2:8<(r.outs[j].length:Int)
      . rw [zAa c2,zAb (by omega)];rfl
      . rw [zAb c2,zAa (by omega)];simp only [lj,if_false,ju]
        rw [zkr (L:=zdp k n r (j:Int)) r.outs[j] false (fAlt n) hx (fun m i hi=>by
          rw [zdp,zAc ⟨by omega,zae h⟩,zca h,zAc (zae hi),zAc ⟨by omega,zae hi⟩,zca hi,z36 _ hk10,dz];unfold fAlt;by_cases d1:r.outs[j][i].link < -1
          . rw [zAc d1,zAb (by omega)];rfl
          . rw [zAd d1];by_cases d2:(n.links.length:Int)<=r.outs[j][i].link
            . rw [zAc d2,zAb (by omega)];rfl
            . rw [zAd d2,zAa (by omega)];rfl) (fun m=>by rw [zdp,zAc ⟨by omega,zae h⟩,zca h,zAd (by omega)]) (fh hx hk),dz]
        cases r.outs[j].all (fAlt n)<;>rfl
  rw [hloop];by_cases c1:r.prio<1
  . rw [zAc c1,zAb (by omega)];rfl
  . rw [zAd c1];by_cases c2:65535<r.prio
    . rw [zAc c2,zAb (by omega)];rfl
    . rw [zAd c2,zAa (show 1<=r.prio/\r.prio<=65535 by omega)]
      cases zak r.mat with
      |false=>rfl
      |true =>
        simp only [if_true,ju];by_cases c3:r.step < -1
        . rw [zAc c3,zAb (by omega)];rfl
        . rw [zAd c3];by_cases c4:steps<=r.step
          . rw [zAc c4,zAb (by omega)];rfl
          . rw [zAd c4,dz];by_cases c5:16<(r.outs.length:Int)
            . rw [zAa c5,zAb (by omega)];rfl
            . rw [zAb c5,zAa (by omega)];simp only [lj,if_false,ju];cases r.outs.all (fOut n)<;>rfl
def zfe (k:Nat) (n:Net):Nat->Int->(List ByteArray)->Nat->Option (List ByteArray×Nat)
 |0,_,_,_=>none
 |m+1,i,l,n2=>(if i<(n.nodes.length:Int) then (if 0<=i/\i<(n.nodes.length:Int) then (if (n2+1)*17<=1000000000 then zfe k n m (d9.wrap (i+1)) (l++[(gx n.nodes i).name]) (n2+1) else none) else none) else some (l,n2))
def zfd (k:Nat) (n:Net):Nat->Int->(List ByteArray)->Nat->Option (List ByteArray×Nat)
 |0,_,_,_=>none
 |m+1,i2,l2,n3=>(if i2<(n.edges.length:Int) then (if 0<=i2/\i2<(n.edges.length:Int) then (if (n3+1)*17<=1000000000 then zfd k n m (d9.wrap (i2+1)) (l2++[(gx n.edges i2).name]) (n3+1) else none) else none) else some (l2,n3))
def zlh (k:Nat) (n:Net):Option (List ByteArray×List ByteArray):=((zfe k n k 0 [] 0:Option (List ByteArray×Nat)).bind fun s_=>((zfd k n k 0 [] 0:Option (List ByteArray×Nat)).bind fun s_2=>(if s_.1.length=s_.2 then (if s_2.1.length=s_2.2 then some (s_.1,s_2.1) else none) else none)))
theorem z1h (ax:Axs) (hx:NoAx ax) (k:Nat) (n:Net) (v:List ByteArray×List ByteArray) (H:zlh k n=some v):Pure Tryz.prog (EE ax) [] 37 [eNet n] (tupT [strs v.1,strs v.2]):=by
 rw [zlh] at H;refine enN [.tmp 2,.tmp 3] 42 [0] (hx.no _ (by decide)) (fn37 ax) ?_;intro h hh;apply d6;refine rk [1] [] hh fun h hh=>?_;apply d6;refine rk [1,4] [] hh fun h hh=>?_;refine vk 4 1 [1,4] hh fun h hh=>?_;apply d6;refine rk [1,4,5] [] hh fun h hh=>?_;refine vk 5 1 [1,4,5] hh fun h hh=>?_;repeat apply d6
 refine rk [1,4,5,6] [] hh fun h hh=>?_;obtain ⟨s_,H1,H⟩:=zad H;refine cu [1,4,5] 3 (fun h bs=>(h 1=.ptr 0 0 3/\h 4=.arr 1 1 0 s_.2 s_.2 s_.2/\h 5=.arr 2 1 0 0 0 0)/\bs=[.cells true 3 [zax n.nodes,zay n.links,zaz n.edges],.cells false s_.2 (s_.1.map oq),.cells false 0 ([].map oq)]) ?_ ?_
 .skip;apply fo;refine iw [1,4,5,6] (fun m h bs=>∃ (i:Int) (l:List ByteArray) (n2:Nat),zfe k n m i l n2=some s_/\(h 1=.ptr 0 0 3/\h 4=.arr 1 1 0 n2 n2 n2/\h 5=.arr 2 1 0 0 0 0/\h 6=.int .i64 i)/\bs=[.cells true 3 [zax n.nodes,zay n.links,zaz n.edges],.cells false n2 (l.map oq),.cells false 0 ([].map oq)]) ?_ k _ _ ?_;rotate_left
  .exact ⟨0,[],0,H1,kq hh,rfl⟩
  clear hh h H1;rintro m h bs ⟨i,l,n2,H1,hh,rfl⟩;rcases m with _|m
  .rw [zfe] at H1;cases H1
  rw [zfe] at H1;repeat apply d6
  refine rk [1,4,5,6,12] [] hh fun h hh=>?_;rcases isp H1 with ⟨c1,H1⟩|⟨c1,H1⟩;rotate_left
  .skip;refine cf (f2 hh (zAb c1)) ?_;refine xk ?_;cases H1;exact ce hh ⟨kq hh,rfl⟩
  refine ct (f2 hh (zAa c1)) ?_;refine sk ?_;apply d6;apply fo;obtain ⟨g2,H1⟩:=isg H1;obtain ⟨g3,H1⟩:=isg H1;refine rg [] [] [.cells true 3 [zax n.nodes,zay n.links,zaz n.edges],.cells false (n2+1) ((l++[(gx n.nodes i).name]).map oq),.cells false 0 ([].map oq)] (fun h=>h 1=.ptr 0 0 3/\h 4=.arr 1 1 0 (n2+1) (n2+1) (n2+1)/\h 5=.arr 2 1 0 0 0 0/\h 6=.int .i64 i) (f2 hh (zah g2)) trivial fun h hh=>?_;refine rk [1,4,5,6] [] hh fun h hh=>?_;exact rd m hh ⟨(d9.wrap (i+1)),(l++[(gx n.nodes i).name]),(n2+1),H1,kq hh,rfl⟩
 clear hh h;rintro h bs ⟨hh,rfl⟩;repeat apply d6
 refine rk [1,4,5,7] [] hh fun h hh=>?_;obtain ⟨s_2,H1,H⟩:=zad H;refine cu [4,5] 3 (fun h bs=>(h 4=.arr 1 1 0 s_.2 s_.2 s_.2/\h 5=.arr 2 1 0 s_2.2 s_2.2 s_2.2)/\bs=[.cells true 3 [zax n.nodes,zay n.links,zaz n.edges],.cells false s_.2 (s_.1.map oq),.cells false s_2.2 (s_2.1.map oq)]) ?_ ?_
 .skip;apply fo;refine iw [1,4,5,7] (fun m h bs=>∃ (i2:Int) (l2:List ByteArray) (n3:Nat),zfd k n m i2 l2 n3=some s_2/\(h 1=.ptr 0 0 3/\h 4=.arr 1 1 0 s_.2 s_.2 s_.2/\h 5=.arr 2 1 0 n3 n3 n3/\h 7=.int .i64 i2)/\bs=[.cells true 3 [zax n.nodes,zay n.links,zaz n.edges],.cells false s_.2 (s_.1.map oq),.cells false n3 (l2.map oq)]) ?_ k _ _ ?_;rotate_left
  .exact ⟨0,[],0,H1,kq hh,rfl⟩
  clear hh h H1;rintro m h bs ⟨i2,l2,n3,H1,hh,rfl⟩;rcases m with _|m
  .rw [zfd] at H1;cases H1
  rw [zfd] at H1;repeat apply d6
  refine rk [1,4,5,7,28] [] hh fun h hh=>?_;rcases isp H1 with ⟨c4,H1⟩|⟨c4,H1⟩;rotate_left
  .skip;refine cf (f2 hh (zAb c4)) ?_;refine xk ?_;cases H1;exact ce hh ⟨kq hh,rfl⟩
  refine ct (f2 hh (zAa c4)) ?_;refine sk ?_;apply d6;apply fo;obtain ⟨g5,H1⟩:=isg H1;obtain ⟨g6,H1⟩:=isg H1;refine rg [] [] [.cells true 3 [zax n.nodes,zay n.links,zaz n.edges],.cells false s_.2 (s_.1.map oq),.cells false (n3+1) ((l2++[(gx n.edges i2).name]).map oq)] (fun h=>h 1=.ptr 0 0 3/\h 4=.arr 1 1 0 s_.2 s_.2 s_.2/\h 5=.arr 2 1 0 (n3+1) (n3+1) (n3+1)/\h 7=.int .i64 i2) (f2 hh (zah g5)) trivial fun h hh=>?_;refine rk [1,4,5,7] [] hh fun h hh=>?_;exact rd m hh ⟨(d9.wrap (i2+1)),(l2++[(gx n.edges i2).name]),(n3+1),H1,kq hh,rfl⟩
 clear hh h;rintro h bs ⟨hh,rfl⟩;apply d6;refine rk [2,3] [] hh fun h hh=>?_;obtain ⟨g7,H⟩:=isg H;obtain ⟨g8,H⟩:=isg H;refine nf 2 (b:=1) (e:=1) (off:=0) (len:=s_.2) (cap:=s_.2) (M:=s_.2) (s_.1.map oq) (kq hh) (by rfl) (by omega) (by omega) (by rw [fl,Nat.mul_one,zgb (fun _=>rfl),gc (by rw [ek];omega)]) (fun t ht=>by obtain ⟨x,_,rfl⟩:=ip.1 ht;first|rfl|exact zi7 _|exact zh5 _|exact zc6 _|exact zch _ | (rw [ek];rfl)) (by rw [ek]<;>exact g7) (by omega) ?_;rw [zhs _ _ _ (by simp only [lzA]<;>omega)];simp only [scA];refine gk [2,3] hh fun h hh=>?_;refine nf 3 (b:=2) (e:=1) (off:=0) (len:=s_2.2) (cap:=s_2.2) (M:=s_2.2) (s_2.1.map oq) (kq hh) (by rfl) (by omega) (by omega) (by rw [fl,Nat.mul_one,zgb (fun _=>rfl),gc (by rw [ek];omega)]) (fun t ht=>by obtain ⟨x,_,rfl⟩:=ip.1 ht;first|rfl|exact zi7 _|exact zh5 _|exact zc6 _|exact zch _ | (rw [ek];rfl)) (by rw [ek]<;>exact g8) (by omega) ?_;rw [zhs _ _ _ (by simp only [lzA]<;>omega)];simp only [scA];refine gk [2,3] hh fun h hh=>?_;cases H;exact rt hh
def ze7 (k:Nat) (s_:ByteArray):Nat->Int->Option (Bool ⊕ Unit)
 |0,_=>none
 |m+1,i=>(if i<(s_.size:Int) then (((if 0<=i/\i<(s_.size:Int) then (if 97<=((bx s_ i).toNat:Int) then some (decide (((bx s_ i).toNat:Int)<=122)) else some false) else none):Option Bool).bind fun s_3=>(((if 0<=i/\i<(s_.size:Int) then (if 48<=((bx s_ i).toNat:Int) then (if ((bx s_ i).toNat:Int)<=57 then some true else some (decide (((bx s_ i).toNat:Int)=95))) else some (decide (((bx s_ i).toNat:Int)=95))) else none):Option Bool).bind fun s_4=>(if s_3=true then ze7 k s_ m (d9.wrap (i+1)) else (if s_4=true then (if i=0 then some (.inl false) else ze7 k s_ m (d9.wrap (i+1))) else some (.inl false))))) else some (.inr ()))
def znd (k:Nat) (s_:ByteArray):Option Bool:=((ze7 k s_ k 0:Option (Bool ⊕ Unit)).bind fun o=>i9 (fun r=>some r) (fun s_2=>(if 1<=(s_.size:Int) then some (decide ((s_.size:Int)<=24)) else some false)) o)
theorem z3h (ax:Axs) (hx:NoAx ax) (k:Nat) (s_:ByteArray) (v:Bool) (H:znd k s_=some v):Pure Tryz.prog (EE ax) [] 82 [.str s_] (.bool v):=by
 rw [znd] at H;refine en [.tmp 2] 56 [0] (hx.no _ (by decide)) (fn82 ax) ?_;intro h hh;apply d6;refine rk [0] [] hh fun h hh=>?_;repeat apply d6
 refine rk [0,3] [] hh fun h hh=>?_;obtain ⟨o,H1,H⟩:=zad H;refine cu [0] 0 (fun h bs=>∃ s_2:Unit,o=.inr s_2/\(h 0=.str s_)/\bs=[]) ?_ ?_
 .skip;apply fo;refine iw [0,3] (fun m h bs=>∃ (i:Int),ze7 k s_ m i=some o/\(h 0=.str s_/\h 3=.int .i64 i)/\bs=[]) ?_ k _ _ ?_;rotate_left
  .exact ⟨0,H1,kq hh,rfl⟩
  clear hh h H1;rintro m h bs ⟨i,H1,hh,rfl⟩;rcases m with _|m
  .rw [ze7] at H1;cases H1
  rw [ze7] at H1;repeat apply d6
  refine rk [0,3,9] [] hh fun h hh=>?_;rcases isp H1 with ⟨c1,H1⟩|⟨c1,H1⟩;rotate_left
  .skip;refine cf (f2 hh (zAb c1)) ?_;refine xk ?_;cases H1;exact ce hh ⟨_,rfl,kq hh,rfl⟩
  refine ct (f2 hh (zAa c1)) ?_;refine sk ?_;apply d6;apply fo;obtain ⟨s_3,H2,H1⟩:=zad H1;apply d6;refine cu [0,3,4] 0 (fun h bs=>(h 0=.str s_/\h 3=.int .i64 i/\h 4=.bool s_3)/\bs=[]) ?_ ?_
  .skip;obtain ⟨g2,H2⟩:=isg H2;rcases isp H2 with ⟨c3,H2⟩|⟨c3,H2⟩;rotate_left
   .skip;refine rk [0,3,4] [] (f3 hh (zAb c3) (zxd g2)) fun h hh=>?_;cases H2;exact ce hh ⟨kq hh,rfl⟩
   refine rk [0,3,4] [] (f3 hh (zAa c3) (zxd g2)) fun h hh=>?_;cases H2;exact ce hh ⟨kq hh,rfl⟩
  clear hh h;rintro h bs ⟨hh,rfl⟩;obtain ⟨s_4,H2,H1⟩:=zad H1;apply d6;refine cu [0,3,4,5] 0 (fun h bs=>(h 0=.str s_/\h 3=.int .i64 i/\h 4=.bool s_3/\h 5=.bool s_4)/\bs=[]) ?_ ?_
  .skip;obtain ⟨g4,H2⟩:=isg H2;rcases isp H2 with ⟨c5,H2⟩|⟨c5,H2⟩;rotate_left
   .skip;refine rk [0,3,4,5] [] (f3 hh (zAb c5) (zxd g4)) fun h hh=>?_;cases H2;exact ce hh ⟨kq hh,rfl⟩
   rcases isp H2 with ⟨c6,H2⟩|⟨c6,H2⟩;rotate_left
   .skip;refine rk [0,3,4,5] [] (f3 hh (zAa c5) (f2 (zAb c6) (zxd g4))) fun h hh=>?_;cases H2;exact ce hh ⟨kq hh,rfl⟩
   refine rk [0,3,4,5] [] (f3 hh (zAa c5) (f2 (zAa c6) (zxd g4))) fun h hh=>?_;cases H2;exact ce hh ⟨kq hh,rfl⟩
  clear hh h;rintro h bs ⟨hh,rfl⟩;rcases isb H1 with ⟨c7,H1⟩|⟨c7,H1⟩;rotate_left
  .skip;rcases isb H1 with ⟨c8,H1⟩|⟨c8,H1⟩;rotate_left
   .skip;apply d6;refine rk [0,3,47] [] (f3 hh c7 c8) fun h hh=>?_;refine ct hh ?_;apply d6;refine rk [2] [] (f3 hh c7 c8) fun h hh=>?_;cases H1;obtain rfl:=sinl H;exact rt hh
   apply d6;refine rk [0,3,47] [] (f3 hh c7 c8) fun h hh=>?_;rcases isp H1 with ⟨c9,H1⟩|⟨c9,H1⟩;rotate_left
   .skip;refine cf (f2 hh (zAb c9)) ?_;refine sk ?_;refine rk [0,3] [] (f3 hh c7 c8) fun h hh=>?_;exact rd m hh ⟨(d9.wrap (i+1)),H1,kq hh,rfl⟩
   refine ct (f2 hh (zAa c9)) ?_;apply d6;refine rk [2] [] (f3 hh c7 c8) fun h hh=>?_;cases H1;obtain rfl:=sinl H;exact rt hh
  apply d6;refine rk [0,3,47] [] (f2 hh c7) fun h hh=>?_;refine cf hh ?_;refine sk ?_;refine rk [0,3] [] (f2 hh c7) fun h hh=>?_;exact rd m hh ⟨(d9.wrap (i+1)),H1,kq hh,rfl⟩
 clear hh h;rintro h bs ⟨s_2,rfl,hh,rfl⟩;replace H:=sinr H;rcases isp H with ⟨c10,H⟩|⟨c10,H⟩;rotate_left
 .skip;apply d6;refine rk [2] [] (f2 hh (zAb c10)) fun h hh=>?_;cases H;exact rt hh
 apply d6;refine rk [2] [] (f2 hh (zAa c10)) fun h hh=>?_;cases H;exact rt hh
def zfb (k:Nat) (l:List ByteArray) (i:Int):Nat->Int->Option (Bool ⊕ Unit)
 |0,_=>none
 |m+1,k_=>(if k_<i then (if 0<=k_/\k_<(l.length:Int) then (if (gx l k_)=(gx l i) then some (.inl false) else zfb k l i m (d9.wrap (k_+1))) else none) else some (.inr ()))
def zfc (k:Nat) (l:List ByteArray):Nat->Int->Option (Bool ⊕ Unit)
 |0,_=>none
 |m+1,i=>(if i<(l.length:Int) then (((if 0<=i/\i<(l.length:Int) then ((znd k (gx l i)).bind fun da=>(if da=true then ((zfb k l i k 0:Option (Bool ⊕ Unit)).bind fun o=>i9 (fun r=>some (.inl r)) (fun s_3=>some (.inr ())) o) else some (.inl false))) else none):Option (Bool ⊕ Unit)).bind fun o2=>i9 (fun r=>some (.inl r)) (fun s_2=>zfc k l m (d9.wrap (i+1))) o2) else some (.inr ()))
def zjo (k:Nat) (l:List ByteArray):Option Bool:=((zfc k l k 0:Option (Bool ⊕ Unit)).bind fun o3=>i9 (fun r=>some r) (fun s_=>some true) o3)
theorem zql (ax:Axs) (hx:NoAx ax) (k:Nat) (l:List ByteArray) (v:Bool) (H:zjo k l=some v):Pure Tryz.prog (EE ax) [] 38 [strs l] (.bool v):=by
 rw [zjo] at H;refine en [.tmp 2] 33 [0] (hx.no _ (by decide)) (fn38 ax) ?_;intro h hh;apply d6;refine rk [0] [] hh fun h hh=>?_;repeat apply d6
 refine rk [0,3] [] hh fun h hh=>?_;obtain ⟨o3,H1,H⟩:=zad H;refine cu [] 0 (fun h bs=>∃ s_:Unit,o3=.inr s_/\(True)/\bs=[]) ?_ ?_
 .skip;apply fo;refine iw [0,3] (fun m h bs=>∃ (i:Int),zfc k l m i=some o3/\(h 0=strs l/\h 3=.int .i64 i)/\bs=[]) ?_ k _ _ ?_;rotate_left
  .exact ⟨0,H1,kq hh,rfl⟩
  clear hh h H1;rintro m h bs ⟨i,H1,hh,rfl⟩;rcases m with _|m
  .rw [zfc] at H1;cases H1
  rw [zfc] at H1;repeat apply d6
  refine rk [0,3,9] [] hh fun h hh=>?_;rcases isp H1 with ⟨c1,H1⟩|⟨c1,H1⟩;rotate_left
  .skip;refine cf (f2 hh (zAb c1)) ?_;refine xk ?_;cases H1;exact ce hh ⟨_,rfl,kq hh,rfl⟩
  refine ct (f2 hh (zAa c1)) ?_;refine sk ?_;obtain ⟨o2,H2,H1⟩:=zad H1;apply d6;refine cu [0,3] 0 (fun h bs=>∃ s_2:Unit,o2=.inr s_2/\(h 0=strs l/\h 3=.int .i64 i)/\bs=[]) ?_ ?_
  .skip;apply fo;obtain ⟨g2,H2⟩:=isg H2;obtain ⟨da,e3,H2⟩:=zad H2;apply d6;refine rkp [0,3,4] [] [.bool da] (f2 hh (zah g2)) ?_ ?_
   .exact ⟨ff ((z3h ax hx k (gx l i) da e3 ).call _),trivial⟩
   clear hh h;intro h hh;repeat apply d6
   refine rk [0,3,18] [] hh fun h hh=>?_;rcases isb H2 with ⟨c4,H2⟩|⟨c4,H2⟩;rotate_left
   .skip;refine ct (f2 hh c4) ?_;apply d6;refine rk [2] [] (f2 hh c4) fun h hh=>?_;cases H2;obtain rfl:=sinm H1;obtain rfl:=sinl H;exact rt hh
   refine cf (f2 hh c4) ?_;refine sk ?_;apply d6;refine rk [0,3,5] [] (f2 hh c4) fun h hh=>?_;obtain ⟨o,H3,H2⟩:=zad H2;refine cu [0,3] 0 (fun h bs=>∃ s_3:Unit,o=.inr s_3/\(h 0=strs l/\h 3=.int .i64 i)/\bs=[]) ?_ ?_
   .skip;apply fo;refine iw [0,3,5] (fun m h bs=>∃ (k_:Int),zfb k l i m k_=some o/\(h 0=strs l/\h 3=.int .i64 i/\h 5=.int .i64 k_)/\bs=[]) ?_ k _ _ ?_;rotate_left
    .exact ⟨0,H3,kq hh,rfl⟩
    clear hh h H3;rintro m h bs ⟨k_,H3,hh,rfl⟩;rcases m with _|m
    .rw [zfb] at H3;cases H3
    rw [zfb] at H3;repeat apply d6
    refine rk [0,3,5,21] [] (f2 hh c4) fun h hh=>?_;rcases isp H3 with ⟨c5,H3⟩|⟨c5,H3⟩;rotate_left
    .skip;refine cf (f2 hh (zAb c5)) ?_;refine xk ?_;cases H3;exact ce hh ⟨_,rfl,kq hh,rfl⟩
    refine ct (f2 hh (zAa c5)) ?_;refine sk ?_;apply d6;apply fo;obtain ⟨g6,H3⟩:=isg H3;apply d6;refine dk 8 [0,3,5,32] [] [] [] (f3 hh c4 (f2 (zah g6) (zah g2))) trivial trivial fun h hh=>?_;rcases isp H3 with ⟨c7,H3⟩|⟨c7,H3⟩;rotate_left
    .skip;refine cf (f2 hh (zAb c7)) ?_;refine sk ?_;refine rk [0,3,5] [] (f2 hh c4) fun h hh=>?_;exact rd m hh ⟨(d9.wrap (k_+1)),H3,kq hh,rfl⟩
    refine ct (f2 hh (zAa c7)) ?_;apply d6;refine rk [2] [] (f2 hh c4) fun h hh=>?_;cases H3;obtain rfl:=sinm H2;obtain rfl:=sinm H1;obtain rfl:=sinl H;exact rt hh
   clear hh h;rintro h bs ⟨s_3,rfl,hh,rfl⟩;replace H2:=sinr H2;cases H2;exact ce hh ⟨_,rfl,kq hh,rfl⟩
  clear hh h;rintro h bs ⟨s_2,rfl,hh,rfl⟩;replace H1:=sinr H1;refine rk [0,3] [] hh fun h hh=>?_;exact rd m hh ⟨(d9.wrap (i+1)),H1,kq hh,rfl⟩
 clear hh h;rintro h bs ⟨s_,rfl,hh,rfl⟩;replace H:=sinr H;apply d6;refine rk [2] [] hh fun h hh=>?_;cases H;exact rt hh
def zg4 (k:Nat) (n:Net) (k_:Int):Option Bool:=(if 0<=k_ then some (decide (k_<(n.nodes.length:Int))) else some false)
theorem zck (ax:Axs) (hx:NoAx ax) (k:Nat) (n:Net) (k_:Int) (v:Bool) (H:zg4 k n k_=some v):Pure Tryz.prog (EE ax) [] 39 [eNet n,.int .i64 k_] (.bool v):=by
 rw [zg4] at H;refine en [.tmp 4] 14 [0,1] (hx.no _ (by decide)) (fn39 ax) ?_;intro h hh;apply d6;refine rk [1,2] [] hh fun h hh=>?_;rcases isp H with ⟨c1,H⟩|⟨c1,H⟩;rotate_left
 .skip;apply d6;refine rk [4] [] (f2 hh (zAb c1)) fun h hh=>?_;cases H;exact rt hh
 apply d6;refine rk [4] [] (f2 hh (zAa c1)) fun h hh=>?_;cases H;exact rt hh
def zfh (k:Nat) (n:Net):Nat->Int->Option (Int ⊕ Unit)
 |0,_=>none
 |m+1,i=>(if i<(n.nodes.length:Int) then (if 0<=i/\i<(n.nodes.length:Int) then (if ((gx n.nodes i).rules)<0 then some (.inl 1) else (if 4000<((gx n.nodes i).rules) then some (.inl 1) else (if ((gx n.nodes i).entries)<0 then some (.inl 1) else (if 100000<((gx n.nodes i).entries) then some (.inl 1) else zfh k n m (d9.wrap (i+1)))))) else none) else some (.inr ()))
def zfg (k:Nat) (n:Net):Nat->Int->Option (Int ⊕ Unit)
 |0,_=>none
 |m+1,i2=>(if i2<(n.links.length:Int) then (if 0<=i2/\i2<(n.links.length:Int) then ((zg4 k n ((gx n.links i2).frm)).bind fun az=>(if az=true then ((zg4 k n ((gx n.links i2).to)).bind fun bi=>(if bi=true then (if ((gx n.links i2).frm)=((gx n.links i2).to) then some (.inl 1) else (if ((gx n.links i2).cap)<0 then some (.inl 1) else (if 1048576<((gx n.links i2).cap) then some (.inl 1) else zfg k n m (d9.wrap (i2+1))))) else some (.inl 1))) else some (.inl 1))) else none) else some (.inr ()))
def zff (k:Nat) (n:Net):Nat->Int->Option (Int ⊕ Unit)
 |0,_=>none
 |m+1,i3=>(if i3<(n.edges.length:Int) then (if 0<=i3/\i3<(n.edges.length:Int) then ((zg4 k n ((gx n.edges i3).node)).bind fun db=>(if db=true then zff k n m (d9.wrap (i3+1)) else some (.inl 1))) else none) else some (.inr ()))
def zli (k:Nat) (n:Net):Option Int:=(((if 200<(n.nodes.length:Int) then some true else (if 2000<(n.links.length:Int) then some true else some (decide (400<(n.edges.length:Int))))):Option Bool).bind fun s_=>(if s_=true then some 2 else ((zlh k n).bind fun bu=>((zjo k bu.1).bind fun de=>((zjo k bu.2).bind fun df=>(((if de=true then some (!df) else some true):Option Bool).bind fun s_2=>(if s_2=true then some 4 else ((zfh k n k 0:Option (Int ⊕ Unit)).bind fun o3=>i9 (fun r=>some r) (fun s_3=>((zfg k n k 0:Option (Int ⊕ Unit)).bind fun o2=>i9 (fun r=>some r) (fun s_4=>((zff k n k 0:Option (Int ⊕ Unit)).bind fun o=>i9 (fun r=>some r) (fun s_5=>some 0) o)) o2)) o3))))))))
theorem z1i (ax:Axs) (hx:NoAx ax) (k:Nat) (n:Net) (v:Int) (H:zli k n=some v):Pure Tryz.prog (EE ax) [] 9 [eNet n] (.int .i64 v):=by
 rw [zli] at H;refine en [.tmp 2] 130 [0] (hx.no _ (by decide)) (fn9 ax) ?_;intro h hh;apply d6;refine rk [1] [] hh fun h hh=>?_;obtain ⟨s_,H1,H⟩:=zad H;repeat apply d6
 refine cu [1,27] 1 (fun h bs=>(h 1=.ptr 0 0 3/\h 27=.bool s_)/\bs=[.cells true 3 [zax n.nodes,zay n.links,zaz n.edges]]) ?_ ?_
 .skip;rcases isp H1 with ⟨c1,H1⟩|⟨c1,H1⟩;rotate_left
  .skip;rcases isp H1 with ⟨c2,H1⟩|⟨c2,H1⟩;rotate_left
   .skip;refine rk [1,27] [] (f3 hh (zAb c1) (zAb c2)) fun h hh=>?_;cases H1;exact ce hh ⟨kq hh,rfl⟩
   refine rk [1,27] [] (f3 hh (zAb c1) (zAa c2)) fun h hh=>?_;cases H1;exact ce hh ⟨kq hh,rfl⟩
  refine rk [1,27] [] (f2 hh (zAa c1)) fun h hh=>?_;cases H1;exact ce hh ⟨kq hh,rfl⟩
 clear hh h;rintro h bs ⟨hh,rfl⟩;rcases isb H with ⟨c3,H⟩|⟨c3,H⟩;rotate_left
 .skip;refine cf (f2 hh c3) ?_;refine sk ?_;obtain ⟨bu,e4,H⟩:=zad H;apply d6;refine rkp [1,3,4] [] [.tup [strs bu.1,strs bu.2]] (f2 hh c3) ?_ ?_
  .exact ⟨ff (gq (z1h ax hx k n bu e4 ) (by first|rfl|simp only [c3])),trivial⟩
  clear hh h;intro h hh;obtain ⟨de,e5,H⟩:=zad H;apply d6;refine rkp [1,4,5] [] [.bool de] (f2 hh c3) ?_ ?_
  .exact ⟨ff (gq (zql ax hx k bu.1 de e5 ) (by first|rfl|simp only [c3])),trivial⟩
  clear hh h;intro h hh;obtain ⟨df,e6,H⟩:=zad H;apply d6;refine rkp [1,5,6] [] [.bool df] (f2 hh c3) ?_ ?_
  .exact ⟨ff (gq (zql ax hx k bu.2 df e6 ) (by first|rfl|simp only [c3])),trivial⟩
  clear hh h;intro h hh;obtain ⟨s_2,H1,H⟩:=zad H;repeat apply d6
  refine cu [1,42] 1 (fun h bs=>(h 1=.ptr 0 0 3/\h 42=.bool s_2)/\bs=[.cells true 3 [zax n.nodes,zay n.links,zaz n.edges]]) ?_ ?_
  .skip;rcases isb H1 with ⟨c7,H1⟩|⟨c7,H1⟩;rotate_left
   .skip;refine rk [1,42] [] (f3 hh c7 c3) fun h hh=>?_;cases H1;exact ce hh ⟨kq hh,rfl⟩
   refine rk [1,42] [] (f3 hh c7 c3) fun h hh=>?_;cases H1;exact ce hh ⟨kq hh,rfl⟩
  clear hh h;rintro h bs ⟨hh,rfl⟩;rcases isb H with ⟨c8,H⟩|⟨c8,H⟩;rotate_left
  .skip;refine cf (f2 hh c8) ?_;refine sk ?_;repeat apply d6
   refine rk [1,7] [] (f3 hh c3 c8) fun h hh=>?_;obtain ⟨o3,H1,H⟩:=zad H;refine cu [1] 1 (fun h bs=>∃ s_3:Unit,o3=.inr s_3/\(h 1=.ptr 0 0 3)/\bs=[.cells true 3 [zax n.nodes,zay n.links,zaz n.edges]]) ?_ ?_
   .skip;apply fo;refine iw [1,7] (fun m h bs=>∃ (i:Int),zfh k n m i=some o3/\(h 1=.ptr 0 0 3/\h 7=.int .i64 i)/\bs=[.cells true 3 [zax n.nodes,zay n.links,zaz n.edges]]) ?_ k _ _ ?_;rotate_left
    .exact ⟨0,H1,kq hh,rfl⟩
    clear hh h H1;rintro m h bs ⟨i,H1,hh,rfl⟩;rcases m with _|m
    .rw [zfh] at H1;cases H1
    rw [zfh] at H1;repeat apply d6
    refine rk [1,7,47] [] (f3 hh c3 c8) fun h hh=>?_;rcases isp H1 with ⟨c9,H1⟩|⟨c9,H1⟩;rotate_left
    .skip;refine cf (f2 hh (zAb c9)) ?_;refine xk ?_;cases H1;exact ce hh ⟨_,rfl,kq hh,rfl⟩
    refine ct (f2 hh (zAa c9)) ?_;refine sk ?_;apply d6;apply fo;obtain ⟨g10,H1⟩:=isg H1;apply d6;refine rk [1,7,8] [] (f3 hh c3 (f2 c8 (zah g10))) fun h hh=>?_;rcases isp H1 with ⟨c11,H1⟩|⟨c11,H1⟩;rotate_left
    .skip;rcases isp H1 with ⟨c12,H1⟩|⟨c12,H1⟩;rotate_left
     .skip;rcases isp H1 with ⟨c13,H1⟩|⟨c13,H1⟩;rotate_left
      .skip;apply d6;refine rk [1,7,72] [] (f3 hh (zAb c11) (f3 (zAb c12) (zAb c13) (f2 c3 c8))) fun h hh=>?_;rcases isp H1 with ⟨c14,H1⟩|⟨c14,H1⟩;rotate_left
       .skip;refine cf (f2 hh (zAb c14)) ?_;refine sk ?_;refine rk [1,7] [] (f3 hh c3 c8) fun h hh=>?_;exact rd m hh ⟨(d9.wrap (i+1)),H1,kq hh,rfl⟩
       refine ct (f2 hh (zAa c14)) ?_;apply d6;refine rk [2] [] (f3 hh c3 c8) fun h hh=>?_;cases H1;obtain rfl:=sinl H;exact rt hh
      apply d6;refine rk [1,7,72] [] (f3 hh (zAb c11) (f3 (zAb c12) (zAa c13) (f2 c3 c8))) fun h hh=>?_;refine ct hh ?_;apply d6;refine rk [2] [] (f3 hh c3 c8) fun h hh=>?_;cases H1;obtain rfl:=sinl H;exact rt hh
     apply d6;refine rk [1,7,72] [] (f3 hh (zAb c11) (f3 (zAa c12) c3 c8)) fun h hh=>?_;refine ct hh ?_;apply d6;refine rk [2] [] (f3 hh c3 c8) fun h hh=>?_;cases H1;obtain rfl:=sinl H;exact rt hh
    apply d6;refine rk [1,7,72] [] (f3 hh (zAa c11) (f2 c3 c8)) fun h hh=>?_;refine ct hh ?_;apply d6;refine rk [2] [] (f3 hh c3 c8) fun h hh=>?_;cases H1;obtain rfl:=sinl H;exact rt hh
   clear hh h;rintro h bs ⟨s_3,rfl,hh,rfl⟩;replace H:=sinr H;repeat apply d6
   refine rk [1,9] [] (f3 hh c3 c8) fun h hh=>?_;obtain ⟨o2,H1,H⟩:=zad H;refine cu [1] 1 (fun h bs=>∃ s_4:Unit,o2=.inr s_4/\(h 1=.ptr 0 0 3)/\bs=[.cells true 3 [zax n.nodes,zay n.links,zaz n.edges]]) ?_ ?_
   .skip;apply fo;refine iw [1,9] (fun m h bs=>∃ (i2:Int),zfg k n m i2=some o2/\(h 1=.ptr 0 0 3/\h 9=.int .i64 i2)/\bs=[.cells true 3 [zax n.nodes,zay n.links,zaz n.edges]]) ?_ k _ _ ?_;rotate_left
    .exact ⟨0,H1,kq hh,rfl⟩
    clear hh h H1;rintro m h bs ⟨i2,H1,hh,rfl⟩;rcases m with _|m
    .rw [zfg] at H1;cases H1
    rw [zfg] at H1;repeat apply d6
    refine rk [1,9,77] [] (f3 hh c3 c8) fun h hh=>?_;rcases isp H1 with ⟨c15,H1⟩|⟨c15,H1⟩;rotate_left
    .skip;refine cf (f2 hh (zAb c15)) ?_;refine xk ?_;cases H1;exact ce hh ⟨_,rfl,kq hh,rfl⟩
    refine ct (f2 hh (zAa c15)) ?_;refine sk ?_;apply d6;apply fo;obtain ⟨g16,H1⟩:=isg H1;apply d6;refine rk [1,9,10] [] (f3 hh c3 (f2 c8 (zah g16))) fun h hh=>?_;obtain ⟨az,e17,H1⟩:=zad H1;rcases isb H1 with ⟨c18,H1⟩|⟨c18,H1⟩;rotate_left
    .skip;apply d6;refine rkp [1,9,113] [] [.bool az] (f3 hh c18 (f2 c3 c8)) ?_ ?_
     .exact ⟨ff (gq (zck ax hx k n ((gx n.links i2).frm) az e17 ) (by first|rfl|simp only [c3,c8,c18])),trivial⟩
     clear hh h;intro h hh;refine ct hh ?_;apply d6;refine rk [2] [] (f3 hh c3 (f2 c8 c18)) fun h hh=>?_;cases H1;obtain rfl:=sinl H;exact rt hh
    obtain ⟨bi,e19,H1⟩:=zad H1;rcases isb H1 with ⟨c20,H1⟩|⟨c20,H1⟩;rotate_left
    .skip;apply d6;refine rkp [1,9,113] [] [.bool az,.bool bi] (f3 hh c18 (f3 c20 c3 c8)) ?_ ?_
     .exact ⟨ff (gq (zck ax hx k n ((gx n.links i2).frm) az e17 ) (by first|rfl|simp only [c3,c8,c18,c20])),ff (gq (zck ax hx k n ((gx n.links i2).to) bi e19 ) (by first|rfl|simp only [c3,c8,c18,c20])),trivial⟩
     clear hh h;intro h hh;refine ct hh ?_;apply d6;refine rk [2] [] (f3 hh c3 (f3 c8 c18 c20)) fun h hh=>?_;cases H1;obtain rfl:=sinl H;exact rt hh
    rcases isp H1 with ⟨c21,H1⟩|⟨c21,H1⟩;rotate_left
    .skip;rcases isp H1 with ⟨c22,H1⟩|⟨c22,H1⟩;rotate_left
     .skip;apply d6;refine rkp [1,9,113] [] [.bool az,.bool bi] (f3 hh c18 (f3 c20 (zAb c21) (f3 (zAb c22) c3 c8))) ?_ ?_
      .exact ⟨ff (gq (zck ax hx k n ((gx n.links i2).frm) az e17 ) (by first|rfl|simp only [c3,c8,c18,c20])),ff (gq (zck ax hx k n ((gx n.links i2).to) bi e19 ) (by first|rfl|simp only [c3,c8,c18,c20])),trivial⟩
      clear hh h;intro h hh;rcases isp H1 with ⟨c23,H1⟩|⟨c23,H1⟩;rotate_left
      .skip;refine cf (f2 hh (zAb c23)) ?_;refine sk ?_;refine rk [1,9] [] (f3 hh c3 (f3 c8 c18 c20)) fun h hh=>?_;exact rd m hh ⟨(d9.wrap (i2+1)),H1,kq hh,rfl⟩
      refine ct (f2 hh (zAa c23)) ?_;apply d6;refine rk [2] [] (f3 hh c3 (f3 c8 c18 c20)) fun h hh=>?_;cases H1;obtain rfl:=sinl H;exact rt hh
     apply d6;refine rkp [1,9,113] [] [.bool az,.bool bi] (f3 hh c18 (f3 c20 (zAb c21) (f3 (zAa c22) c3 c8))) ?_ ?_
     .exact ⟨ff (gq (zck ax hx k n ((gx n.links i2).frm) az e17 ) (by first|rfl|simp only [c3,c8,c18,c20])),ff (gq (zck ax hx k n ((gx n.links i2).to) bi e19 ) (by first|rfl|simp only [c3,c8,c18,c20])),trivial⟩
     clear hh h;intro h hh;refine ct hh ?_;apply d6;refine rk [2] [] (f3 hh c3 (f3 c8 c18 c20)) fun h hh=>?_;cases H1;obtain rfl:=sinl H;exact rt hh
    apply d6;refine rkp [1,9,113] [] [.bool az,.bool bi] (f3 hh c18 (f3 c20 (zAa c21) (f2 c3 c8))) ?_ ?_
    .exact ⟨ff (gq (zck ax hx k n ((gx n.links i2).frm) az e17 ) (by first|rfl|simp only [c3,c8,c18,c20])),ff (gq (zck ax hx k n ((gx n.links i2).to) bi e19 ) (by first|rfl|simp only [c3,c8,c18,c20])),trivial⟩
    clear hh h;intro h hh;refine ct hh ?_;apply d6;refine rk [2] [] (f3 hh c3 (f3 c8 c18 c20)) fun h hh=>?_;cases H1;obtain rfl:=sinl H;exact rt hh
   clear hh h;rintro h bs ⟨s_4,rfl,hh,rfl⟩;replace H:=sinr H;repeat apply d6
   refine rk [1,11] [] (f3 hh c3 c8) fun h hh=>?_;obtain ⟨o,H1,H⟩:=zad H;refine cu [] 1 (fun h bs=>∃ s_5:Unit,o=.inr s_5/\(True)/\bs=[.cells true 3 [zax n.nodes,zay n.links,zaz n.edges]]) ?_ ?_
   .skip;apply fo;refine iw [1,11] (fun m h bs=>∃ (i3:Int),zff k n m i3=some o/\(h 1=.ptr 0 0 3/\h 11=.int .i64 i3)/\bs=[.cells true 3 [zax n.nodes,zay n.links,zaz n.edges]]) ?_ k _ _ ?_;rotate_left
    .exact ⟨0,H1,kq hh,rfl⟩
    clear hh h H1;rintro m h bs ⟨i3,H1,hh,rfl⟩;rcases m with _|m
    .rw [zff] at H1;cases H1
    rw [zff] at H1;repeat apply d6
    refine rk [1,11,118] [] (f3 hh c3 c8) fun h hh=>?_;rcases isp H1 with ⟨c24,H1⟩|⟨c24,H1⟩;rotate_left
    .skip;refine cf (f2 hh (zAb c24)) ?_;refine xk ?_;cases H1;exact ce hh ⟨_,rfl,kq hh,rfl⟩
    refine ct (f2 hh (zAa c24)) ?_;refine sk ?_;apply d6;apply fo;obtain ⟨g25,H1⟩:=isg H1;obtain ⟨db,e26,H1⟩:=zad H1;apply d6;refine dk 7 [1,11,129] [] [] [(.bool db,stL [.cells true 3 [zax n.nodes,zay n.links,zaz n.edges]])] (f3 hh c3 (f2 c8 (zah g25))) trivial ?_ ?_
    .exact ⟨ff (gq (zck ax hx k n ((gx n.edges i3).node) db e26 ) (by first|rfl|simp only [c3,c8])),trivial⟩
    clear hh h;intro h hh;rcases isb H1 with ⟨c27,H1⟩|⟨c27,H1⟩;rotate_left
    .skip;refine ct (f2 hh c27) ?_;apply d6;refine rk [2] [] (f3 hh c3 (f2 c8 c27)) fun h hh=>?_;cases H1;obtain rfl:=sinl H;exact rt hh
    refine cf (f2 hh c27) ?_;refine sk ?_;refine rk [1,11] [] (f3 hh c3 (f2 c8 c27)) fun h hh=>?_;exact rd m hh ⟨(d9.wrap (i3+1)),H1,kq hh,rfl⟩
   clear hh h;rintro h bs ⟨s_5,rfl,hh,rfl⟩;replace H:=sinr H;apply d6;refine rk [2] [] (f3 hh c3 c8) fun h hh=>?_;cases H;exact rt hh
  refine ct (f2 hh c8) ?_;apply d6;refine rk [2] [] (f3 hh c3 c8) fun h hh=>?_;cases H;exact rt hh
 refine ct (f2 hh c3) ?_;apply d6;refine rk [2] [] (f2 hh c3) fun h hh=>?_;cases H;exact rt hh
def zf0 (k:Nat) (t:List Rule) (k_:Int):Nat->Int->Option (Bool ⊕ Unit)
 |0,_=>none
 |m+1,i=>(if i<(((gx t k_).outs).length:Int) then (if 0<=i/\i<(((gx t k_).outs).length:Int) then (if 10<((gx ((gx t k_).outs) i).length:Int) then some (.inl false) else zf0 k t k_ m (d9.wrap (i+1))) else none) else some (.inr ()))
def zf1 (k:Nat) (t:List Rule):Nat->Int->Option (Bool ⊕ Unit)
 |0,_=>none
 |m+1,k_=>(if k_<(t.length:Int) then (((if 0<=k_/\k_<(t.length:Int) then (if 20<(((gx t k_).outs).length:Int) then some (.inl false) else ((zf0 k t k_ k 0:Option (Bool ⊕ Unit)).bind fun o=>i9 (fun r=>some (.inl r)) (fun s_3=>some (.inr ())) o)) else none):Option (Bool ⊕ Unit)).bind fun o2=>i9 (fun r=>some (.inl r)) (fun s_2=>zf1 k t m (d9.wrap (k_+1))) o2) else some (.inr ()))
def zqk (k:Nat) (t:List Rule) (most:Int):Option Bool:=((zf1 k t k 0:Option (Bool ⊕ Unit)).bind fun o3=>i9 (fun r=>some r) (fun s_=>some (decide ((t.length:Int)<=most))) o3)
theorem z66 (ax:Axs) (hx:NoAx ax) (k:Nat) (t:List Rule) (most:Int) (v:Bool) (H:zqk k t most=some v):Pure Tryz.prog (EE ax) [] 35 [zas t,.int .i64 most] (.bool v):=by
 rw [zqk] at H;refine en [.tmp 4] 44 [0,1] (hx.no _ (by decide)) (fn35 ax) ?_;intro h hh;apply d6;refine rk [0,1] [] hh fun h hh=>?_;repeat apply d6
 refine rk [0,1,5] [] hh fun h hh=>?_;obtain ⟨o3,H1,H⟩:=zad H;refine cu [0,1] 0 (fun h bs=>∃ s_:Unit,o3=.inr s_/\(h 0=zas t/\h 1=.int .i64 most)/\bs=[]) ?_ ?_
 .skip;apply fo;refine iw [0,1,5] (fun m h bs=>∃ (k_:Int),zf1 k t m k_=some o3/\(h 0=zas t/\h 1=.int .i64 most/\h 5=.int .i64 k_)/\bs=[]) ?_ k _ _ ?_;rotate_left
  .exact ⟨0,H1,kq hh,rfl⟩
  clear hh h H1;rintro m h bs ⟨k_,H1,hh,rfl⟩;rcases m with _|m
  .rw [zf1] at H1;cases H1
  rw [zf1] at H1;repeat apply d6
  refine rk [0,1,5,10] [] hh fun h hh=>?_;rcases isp H1 with ⟨c1,H1⟩|⟨c1,H1⟩;rotate_left
  .skip;refine cf (f2 hh (zAb c1)) ?_;refine xk ?_;cases H1;exact ce hh ⟨_,rfl,kq hh,rfl⟩
  refine ct (f2 hh (zAa c1)) ?_;refine sk ?_;obtain ⟨o2,H2,H1⟩:=zad H1;apply d6;refine cu [0,1,5] 0 (fun h bs=>∃ s_2:Unit,o2=.inr s_2/\(h 0=zas t/\h 1=.int .i64 most/\h 5=.int .i64 k_)/\bs=[]) ?_ ?_
  .skip;apply fo;obtain ⟨g2,H2⟩:=isg H2;repeat apply d6
   refine rk [0,1,5,19] [] (f2 hh (zah g2)) fun h hh=>?_;rcases isp H2 with ⟨c3,H2⟩|⟨c3,H2⟩;rotate_left
   .skip;refine cf (f2 hh (zAb c3)) ?_;refine sk ?_;apply d6;refine rk [0,1,5,6] [] hh fun h hh=>?_;obtain ⟨o,H3,H2⟩:=zad H2;refine cu [0,1,5] 0 (fun h bs=>∃ s_3:Unit,o=.inr s_3/\(h 0=zas t/\h 1=.int .i64 most/\h 5=.int .i64 k_)/\bs=[]) ?_ ?_
    .skip;apply fo;refine iw [0,1,5,6] (fun m h bs=>∃ (i:Int),zf0 k t k_ m i=some o/\(h 0=zas t/\h 1=.int .i64 most/\h 5=.int .i64 k_/\h 6=.int .i64 i)/\bs=[]) ?_ k _ _ ?_;rotate_left
     .exact ⟨0,H3,kq hh,rfl⟩
     clear hh h H3;rintro m h bs ⟨i,H3,hh,rfl⟩;rcases m with _|m
     .rw [zf0] at H3;cases H3
     rw [zf0] at H3;repeat apply d6
     refine rk [0,1,5,6,27] [] (f2 hh (zah g2)) fun h hh=>?_;rcases isp H3 with ⟨c4,H3⟩|⟨c4,H3⟩;rotate_left
     .skip;refine cf (f2 hh (zAb c4)) ?_;refine xk ?_;cases H3;exact ce hh ⟨_,rfl,kq hh,rfl⟩
     refine ct (f2 hh (zAa c4)) ?_;refine sk ?_;apply d6;apply fo;obtain ⟨g5,H3⟩:=isg H3;apply d6;refine rk [0,1,5,6,39] [] (f3 hh (zah g2) (zah g5)) fun h hh=>?_;rcases isp H3 with ⟨c6,H3⟩|⟨c6,H3⟩;rotate_left
     .skip;refine cf (f2 hh (zAb c6)) ?_;refine sk ?_;refine rk [0,1,5,6] [] hh fun h hh=>?_;exact rd m hh ⟨(d9.wrap (i+1)),H3,kq hh,rfl⟩
     refine ct (f2 hh (zAa c6)) ?_;apply d6;refine rk [4] [] hh fun h hh=>?_;cases H3;obtain rfl:=sinm H2;obtain rfl:=sinm H1;obtain rfl:=sinl H;exact rt hh
    clear hh h;rintro h bs ⟨s_3,rfl,hh,rfl⟩;replace H2:=sinr H2;cases H2;exact ce hh ⟨_,rfl,kq hh,rfl⟩
   refine ct (f2 hh (zAa c3)) ?_;apply d6;refine rk [4] [] hh fun h hh=>?_;cases H2;obtain rfl:=sinm H1;obtain rfl:=sinl H;exact rt hh
  clear hh h;rintro h bs ⟨s_2,rfl,hh,rfl⟩;replace H1:=sinr H1;refine rk [0,1,5] [] hh fun h hh=>?_;exact rd m hh ⟨(d9.wrap (k_+1)),H1,kq hh,rfl⟩
 clear hh h;rintro h bs ⟨s_,rfl,hh,rfl⟩;replace H:=sinr H;apply d6;refine rk [4] [] hh fun h hh=>?_;cases H;exact rt hh
theorem zrh {α:Type} [Inhabited α] {l:List α} {i:Nat} (h:i<l.length):l.getD i default∈l:=by
  rw [eh,ef h];exact ft h
def znt (n:Net) (k:Int):Prop:=0<=k/\k<(n.nodes.length:Int)
instance (n:Net) (k:Int):Decidable (znt n k):=by unfold znt;infer_instance
structure zh7 (n:Net):Prop where
  nodes:n.nodes.length<=10
  links:n.links.length<=30
  rules:∀ k,k<n.nodes.length->0<=(n.nodes.getD k default).rules/\(n.nodes.getD k default).rules<=4000
  frm:∀ k,k<n.links.length->0<=(n.links.getD k default).frm/\(n.links.getD k default).frm<(n.nodes.length:Int)
  to:∀ k,k<n.links.length->0<=(n.links.getD k default).to/\(n.links.getD k default).to<(n.nodes.length:Int)
  apart:∀ k,k<n.links.length->(n.links.getD k default).frm≠(n.links.getD k default).to
  cap:∀ k,k<n.links.length->0<=(n.links.getD k default).cap/\(n.links.getD k default).cap<=1048576
theorem yrf (k:Nat) (s:ByteArray) (hs:s.size<9223372036854775808):∀ (m i:Nat),i<=s.size->s.size - i<m->∃ r,ze7 k s m (i:Int)=some r:=by
  intro m
  induction m with
  |zero=>intro i h1 h2;omega
  |succ m ih =>
    intro i h1 h2;rw [ze7];by_cases c:(i:Int)<(s.size:Int)
    . obtain ⟨r,hr⟩:=ih (i+1) (by omega) (by omega);have g:(0:Int)<=(i:Int)/\(i:Int)<(s.size:Int):=⟨by omega,c⟩
      have A1:∃ b,(if (0:Int)<=(i:Int)/\(i:Int)<(s.size:Int) then (if 97<=((bx s (i:Int)).toNat:Int) then some (decide (((bx s (i:Int)).toNat:Int)<=122)) else some false) else none)=some b:=by
        rw [zAc g];split<;>exact ⟨_,rfl⟩
      have A2:∃ b,(if (0:Int)<=(i:Int)/\(i:Int)<(s.size:Int) then (if 48<=((bx s (i:Int)).toNat:Int) then (if ((bx s (i:Int)).toNat:Int)<=57 then some true else some (decide (((bx s (i:Int)).toNat:Int)=95))) else some (decide (((bx s (i:Int)).toNat:Int)=95))) else none)=some b:=by
        rw [zAc g];split
        . split<;>exact ⟨_,rfl⟩
        . exact ⟨_,rfl⟩
      obtain ⟨b1,h1⟩:=A1;obtain ⟨b2,h2⟩:=A2;rw [zAc c,h1,h2,zcu i (by omega),hr];simp only [dz]
      (repeat' split)<;>exact ⟨_,rfl⟩
    . rw [zAd c];exact ⟨_,rfl⟩
theorem ymi {k:Nat} (hk:9223372036854775808<=k) (s:ByteArray) (hs:s.size<9223372036854775808):∃ r,znd k s=some r:=by
  obtain ⟨r,h⟩:=yrf k s hs k 0 (by omega) (by omega);rw [show ((0:Nat):Int)=0 from rfl] at h;unfold znd;rw [h,dz]
  cases r with
  |inl b=>exact ⟨_,rfl⟩
  |inr u=>simp only [Sum.elim_inr];split<;>exact ⟨_,rfl⟩
theorem yk3 (k:Nat) (l:List ByteArray) (e:Nat) (he:e<l.length) (hl:l.length<9223372036854775808):∀ (m i:Nat),i<=e->e - i<m->∃ r,zfb k l (e:Int) m (i:Int)=some r:=by
  intro m
  induction m with
  |zero=>intro i h1 h2;omega
  |succ m ih =>
    intro i h1 h2;rw [zfb];by_cases c:(i:Int)<(e:Int)
    . obtain ⟨r,hr⟩:=ih (i+1) (by omega) (by omega);rw [zAc c,zAc ⟨by omega,by omega⟩,zcu i (by omega),hr];split<;>exact ⟨_,rfl⟩
    . rw [zAd c];exact ⟨_,rfl⟩
theorem yk4 {k:Nat} (hk:9223372036854775808<=k) (l:List ByteArray) (hl:l.length<9223372036854775808) (hs:∀ s,s∈l->s.size<9223372036854775808):∀ (m i:Nat),i<=l.length->l.length - i<m->∃ r,zfc k l m (i:Int)=some r:=by
  intro m
  induction m with
  |zero=>intro i h1 h2;omega
  |succ m ih =>
    intro i h1 h2;rw [zfc];by_cases c:(i:Int)<(l.length:Int)
    . have hi:i<l.length:=by omega
      obtain ⟨r,hr⟩:=ih (i+1) (by omega) (by omega);obtain ⟨b,hb⟩:=ymi hk (l.getD i default) (hs _ (zrh hi));obtain ⟨r1,h1⟩:=yk3 k l i hi hl k 0 (by omega) (by omega);rw [show ((0:Nat):Int)=0 from rfl] at h1;rw [zAc c,zAc ⟨by omega,c⟩,zcu i (by omega),z49 l i,hb,h1,hr]
      cases b with
      |false=>exact ⟨_,rfl⟩
      |true=>cases r1<;>exact ⟨_,rfl⟩
    . rw [zAd c];exact ⟨_,rfl⟩
theorem z4l {k:Nat} (hk:9223372036854775808<=k) (l:List ByteArray) (hl:l.length<9223372036854775808) (hs:∀ s,s∈l->s.size<9223372036854775808):∃ r,zjo k l=some r:=by
  obtain ⟨r,h⟩:=yk4 hk l hl hs k 0 (by omega) (by omega);rw [show ((0:Nat):Int)=0 from rfl] at h;unfold zjo;rw [h,dz];cases r<;>exact ⟨_,rfl⟩
theorem ymh (k:Nat) (n:Net) (hn:n.nodes.length<=1000) (hs:∀ x,x∈n.nodes->x.name.size<9223372036854775808):∀ (m i:Nat) (l:List ByteArray),i<=n.nodes.length->n.nodes.length - i<m->l.length=i->(∀ s,s∈l->s.size<9223372036854775808) ->
    ∃ l',zfe k n m (i:Int) l i=some (l',l'.length)/\l'.length=n.nodes.length/\∀ s,s∈l'->s.size<9223372036854775808:=by
  intro m
  induction m with
  |zero=>intro i l h1 h2;omega
  |succ m ih =>
    intro i l h1 h2 h3 h4;rw [zfe];by_cases c:(i:Int)<(n.nodes.length:Int)
    . have hi:i<n.nodes.length:=by omega
      rw [zAc c,zAc ⟨by omega,c⟩,zAc (by omega),zcu i (by omega),z49 n.nodes i];refine ih (i+1) _ (by omega) (by omega) (by simp [h3]) fun s hm=>?_;rcases List.mem_append.1 hm with q|q
      . exact h4 s q
      . simp only [jv] at q;subst q;exact hs _ (zrh hi)
    . rw [zAd c];exact ⟨l,by rw [h3],by omega,h4⟩
theorem ymg (k:Nat) (n:Net) (hn:n.edges.length<=1000) (hs:∀ x,x∈n.edges->x.name.size<9223372036854775808):∀ (m i:Nat) (l:List ByteArray),i<=n.edges.length->n.edges.length - i<m->l.length=i->(∀ s,s∈l->s.size<9223372036854775808) ->
    ∃ l',zfd k n m (i:Int) l i=some (l',l'.length)/\l'.length=n.edges.length/\∀ s,s∈l'->s.size<9223372036854775808:=by
  intro m
  induction m with
  |zero=>intro i l h1 h2;omega
  |succ m ih =>
    intro i l h1 h2 h3 h4;rw [zfd];by_cases c:(i:Int)<(n.edges.length:Int)
    . have hi:i<n.edges.length:=by omega
      rw [zAc c,zAc ⟨by omega,c⟩,zAc (by omega),zcu i (by omega),z49 n.edges i];refine ih (i+1) _ (by omega) (by omega) (by simp [h3]) fun s hm=>?_;rcases List.mem_append.1 hm with q|q
      . exact h4 s q
      . simp only [jv] at q;subst q;exact hs _ (zrh hi)
    . rw [zAd c];exact ⟨l,by rw [h3],by omega,h4⟩
theorem znu {k:Nat} {n:Net} (v:Int):zg4 k n v=some (decide (znt n v)):=by
  unfold zg4 znt;by_cases h:0<=v
  . rw [zAc h];simp [h]
  . rw [zAd h];simp [h]
def yj8 (x:Node):Prop:=0<=x.rules/\x.rules<=4000
theorem ytv (k:Nat) (n:Net) (hn:n.nodes.length<=1000):∀ (m i:Nat),i<=n.nodes.length->n.nodes.length - i<m->(∀ j,j<i->yj8 (n.nodes.getD j default))->∃ r,zfh k n m (i:Int)=some r/\((r=.inr ()/\∀ j,j<n.nodes.length->yj8 (n.nodes.getD j default))\/r=.inl 1):=by
  intro m
  induction m with
  |zero=>intro i h1 h2;omega
  |succ m ih =>
    intro i h1 h2 hi;rw [zfh];by_cases c:(i:Int)<(n.nodes.length:Int)
    . by_cases q:yj8 (n.nodes.getD i default)
      . obtain ⟨r,hr,hq⟩:=ih (i+1) (by omega) (by omega) (fun j hj=>by
          rcases ko j i with w|w
          . exact hi j w
          . rw [show j=i by omega];exact q)
        rw [zAc c,zAc ⟨by omega,c⟩,zcu i (by omega),hr]
        (repeat' split)<;>first|exact ⟨_,rfl,.inr rfl⟩|exact ⟨_,rfl,hq⟩
      . rw [zAc c,zAc ⟨by omega,c⟩];have q':¬ (0<=(gx n.nodes (i:Int)).rules/\(gx n.nodes (i:Int)).rules<=4000):=q;by_cases q1:(gx n.nodes (i:Int)).rules<0
        . rw [zAc q1];exact ⟨_,rfl,.inr rfl⟩
        . rw [zAd q1,zAc (by omega)];exact ⟨_,rfl,.inr rfl⟩
    . rw [zAd c];exact ⟨_,rfl,.inl ⟨rfl,fun j hj=>hi j (by omega)⟩⟩
def yph (n:Net) (l:Link):Prop:=znt n l.frm/\znt n l.to/\l.frm≠l.to/\0<=l.cap/\l.cap<=1048576
theorem ytu (k:Nat) (n:Net) (hn:n.links.length<=10000):∀ (m i:Nat),i<=n.links.length->n.links.length - i<m->(∀ j,j<i->yph n (n.links.getD j default))->∃ r,zfg k n m (i:Int)=some r/\((r=.inr ()/\∀ j,j<n.links.length->yph n (n.links.getD j default))\/r=.inl 1):=by
  intro m
  induction m with
  |zero=>intro i h1 h2;omega
  |succ m ih =>
    intro i h1 h2 h3;rw [zfg];by_cases c:(i:Int)<(n.links.length:Int)
    . have hi:i<n.links.length:=by omega
      rw [zAc c,zAc ⟨by omega,c⟩,zcu i (by omega),z49 n.links i,znu,znu,dz,dz];by_cases q1:znt n (n.links.getD i default).frm
      . rw [zAc (zAa q1)];by_cases q2:znt n (n.links.getD i default).to
        . rw [zAc (zAa q2)];by_cases q3:(n.links.getD i default).frm=(n.links.getD i default).to
          . rw [zAc q3];exact ⟨_,rfl,.inr rfl⟩
          . rw [zAd q3];by_cases q4:(n.links.getD i default).cap<0
            . rw [zAc q4];exact ⟨_,rfl,.inr rfl⟩
            . rw [zAd q4];by_cases q5:1048576<(n.links.getD i default).cap
              . rw [zAc q5];exact ⟨_,rfl,.inr rfl⟩
              . rw [zAd q5];exact ih (i+1) (by omega) (by omega) fun j hj=>by rcases Nat.lt_succ_iff_lt_or_eq.1 hj with q|q;exact h3 j q;rw [q];exact ⟨q1,q2,q3,by omega,by omega⟩
        . rw [zAd (by simpa using q2)];exact ⟨_,rfl,.inr rfl⟩
      . rw [zAd (by simpa using q1)];exact ⟨_,rfl,.inr rfl⟩
    . rw [zAd c];exact ⟨_,rfl,.inl ⟨rfl,fun j hj=>h3 j (by omega)⟩⟩
theorem ytt (k:Nat) (n:Net) (hn:n.edges.length<=1000):∀ (m i:Nat),i<=n.edges.length->n.edges.length - i<m->∃ r,zff k n m (i:Int)=some r/\(r=.inr ()\/r=.inl 1):=by
  intro m
  induction m with
  |zero=>intro i h1 h2;omega
  |succ m ih =>
    intro i h1 h2;rw [zff];by_cases c:(i:Int)<(n.edges.length:Int)
    . obtain ⟨r,hr,hq⟩:=ih (i+1) (by omega) (by omega);rw [zAc c,zAc ⟨by omega,c⟩,zcu i (by omega),hr,znu,dz];split
      . exact ⟨_,rfl,hq⟩
      . exact ⟨_,rfl,.inr rfl⟩
    . rw [zAd c];exact ⟨_,rfl,.inl rfl⟩
structure Held (n:Net):Prop where
  nodes:∀ x,x∈n.nodes->x.name.size<9223372036854775808
  edges:∀ x,x∈n.edges->x.name.size<9223372036854775808
theorem ymj {k:Nat} (hk:9223372036854775808<=k) (n:Net) (h1:n.nodes.length<=10) (h2:n.links.length<=30) (h3:n.edges.length<=20) (hh:Held n):∃ r,zli k n=some r/\(r=0->zh7 n):=by
  unfold zli;rw [zAd (by omega),zAd (by omega),dz,zAd (by simp only [decide_eq_true_eq];omega)];obtain ⟨l1,a1,a2,a3⟩:=ymh k n (by omega) hh.nodes k 0 [] (by omega) (by omega) rfl (fun s hs=>by simp at hs);obtain ⟨l2,b1,b2,b3⟩:=ymg k n (by omega) hh.edges k 0 [] (by omega) (by omega) rfl (fun s hs=>by simp at hs);obtain ⟨r1,c1⟩:=z4l hk l1 (by omega) a3;obtain ⟨r2,c2⟩:=z4l hk l2 (by omega) b3;obtain ⟨d1,e1,g1⟩:=ytv k n (by omega) k 0 (by omega) (by omega) (fun j hj=>by omega);obtain ⟨d2,e2,g2⟩:=ytu k n (by omega) k 0 (by omega) (by omega) (fun j hj=>by omega);obtain ⟨d3,e3,g3⟩:=ytt k n (by omega) k 0 (by omega) (by omega);rw [show ((0:Nat):Int)=0 from rfl] at a1 b1 e1 e2 e3
  have hN:zlh k n=some (l1,l2):=by
    unfold zlh;rw [a1,b1];simp
  rw [hN,dz];simp only [c1,c2,dz,e1,e2,e3]
  cases r1 with
  |false=>exact ⟨4,rfl,fun h=>by simp at h⟩
  |true =>
    cases r2 with
    |false=>exact ⟨4,rfl,fun h=>by simp at h⟩
    |true =>
      rcases g1 with ⟨rfl,hnod⟩|rfl
      . rcases g2 with ⟨rfl,hall⟩|rfl
        . have hR:zh7 n:=⟨h1,h2,hnod,fun j hj=>(hall j hj).1,fun j hj=>(hall j hj).2.1,fun j hj=>(hall j hj).2.2.1,fun j hj=>(hall j hj).2.2.2⟩;rcases g3 with rfl|rfl
          . exact ⟨0,rfl,fun _=>hR⟩
          . exact ⟨1,rfl,fun h=>by simp at h⟩
        . exact ⟨1,rfl,fun h=>by simp at h⟩
      . exact ⟨1,rfl,fun h=>by simp at h⟩
def yhd (t:List Rule) (j:Int):Int:=if j=0 then 65536 else (gx t (j - 1)).prio
def zny (n:Net) (steps:Int) (t:List Rule) (j:Nat):Bool:=zhp n steps (t.getD j default) && decide ((t.getD j default).prio<yhd t j)
def zm2 (n:Net) (steps:Int) (t:List Rule):Int×Int :=
  if steps<0\/1000<steps then (0,1) else if 4000<t.length then (0,2) else
  match (i7 t.length).findSome? (fun j=>if zny n steps t j=true then none else some ((j:Int),(1:Int))) with
  |some r=>r
  |none=>(0,0)
theorem yf3 {k:Nat} (n:Net) (steps:Int) (t:List Rule) (ht:z7r t) (hk:big<=k):zlg k n steps t=some (zm2 n steps t):=by
  unfold zlg zm2
  have hloop:zc4 k n steps t k 0=some (sumO ((i7 t.length).findSome? (fun j=>if zny n steps t j=true then none else some ((j:Int),(1:Int))))):=by
    refine zot (L:=zc4 k n steps t) t.length _ ht.1 (fun m j h=>?_) (fun m=>by rw [zc4,zAd (by omega)]) (fh ht.1 hk);have hb:j<9223372036854775808:=by have:=ht.1;simp only [big] at this;omega
    rw [zc4,zAc (zae h),zAc ⟨by omega,zae h⟩,zca h,ycy n steps _ (ht.2 _ (ft h)) hk,dz]
    have hg:zny n steps t j=(zhp n steps t[j] && decide (t[j].prio<yhd t j)):=by
      unfold zny;rw [eh,ef h];rfl
    rw [hg]
    cases hf:zhp n steps t[j] with
    |false=>rfl
    |true =>
      simp only [if_true,ju,decide_eq_true_eq];unfold yhd;by_cases c0:0<(j:Int)
      . have e1:d9.wrap ((j:Int) - 1)=((j - 1:Nat):Int):=by rw [wr64 (by omega)];omega
        have e2:(j:Int) - 1=((j - 1:Nat):Int):=by omega
        have h2:j - 1<t.length:=by omega
        rw [zAc c0,e1,zAc ⟨by omega,by omega⟩,zAd (show ¬ (j:Int)=0 by omega),e2,zca h2];by_cases c:t[j - 1].prio<=t[j].prio
        . rw [zAc c,zAd (by omega)]
        . rw [zAd c,zAc (by omega)]
      . have hp:t[j].prio<=65535:=by
          unfold zhp at hf;simp only [Bool.and_eq_true,decide_eq_true_eq] at hf;exact hf.1.2
        rw [zAd c0,zAc (show (j:Int)=0 by omega),zAc (by omega)]
  rw [hloop];by_cases c1:steps<0
  . rw [zAc c1,zAc (show steps<0\/1000<steps from .inl c1)];rfl
  . rw [zAd c1];by_cases c2:1000<steps
    . rw [zAa c2,zAc (show steps<0\/1000<steps from .inr c2)];rfl
    . rw [zAb c2,zAd (show ¬ (steps<0\/1000<steps) by omega),dz];simp only [lj,if_false];by_cases c3:4000<t.length
      . rw [zAc (by omega),zAc c3]
      . rw [zAd (by omega),zAd c3,dz];cases (i7 t.length).findSome? _<;>rfl
def fewT (t:List Rule) (most:Int):Bool:=t.all (fun r=>decide (r.outs.length<=20) && r.outs.all fun l=>decide (l.length<=10)) && decide ((t.length:Int)<=most)
theorem yp0 {k:Nat} (t:List Rule) (most:Int) (ht:z7r t) (hk:big<=k):zqk k t most=some (fewT t most):=by
  unfold zqk fewT
  rw [zkr (L:=zf1 k t) t false (fun r=>decide (r.outs.length<=20) && r.outs.all fun l=>decide (l.length<=10)) ht.1 (fun m j h=>by
    rw [zf1,zAc (zae h),zAc ⟨by omega,zae h⟩,zca h];by_cases c:20<(t[j].outs.length:Int)
    . rw [zAc c,zAb (by omega)];rfl
    . rw [zAd c,zAa (by omega)];have hr:=(ht.2 _ (ft h)).1
      rw [zkr (L:=zf0 k t (j:Int)) t[j].outs false (fun l=>decide (l.length<=10)) hr (fun m i hi=>by
        rw [zf0,zca h,zAc (zae hi),zAc ⟨by omega,zae hi⟩,zca hi];by_cases d:10<(t[j].outs[i].length:Int)
        . rw [zAc d,zAb (by omega)];rfl
        . rw [zAd d,zAa (by omega)];rfl) (fun m=>by rw [zf0,zca h,zAd (by omega)]) (fh hr hk),dz]
      simp only [ju]
      cases t[j].outs.all _<;>rfl) (fun m=>by rw [zf1,zAd (by omega)]) (fh ht.1 hk),dz]
  cases t.all _<;>rfl
def zd9 (k:Nat) (n:Net) (c:zbc):Nat->Int->Option (Bool ⊕ Unit)
 |0,_=>none
 |m+1,i=>(if i<(c.tables.length:Int) then (if 0<=i/\i<(c.tables.length:Int) then ((zlg k n (c.steps.length:Int) (gx c.tables i)).bind fun bj=>(if bj.2≠0 then some (.inl false) else zd9 k n c m (d9.wrap (i+1)))) else none) else some (.inr ()))
def zlc (k:Nat) (n:Net) (c:zbc):Option Bool:=(((if (c.tables.length:Int)≠(n.nodes.length:Int) then some true else some (decide (1000<(c.steps.length:Int)))):Option Bool).bind fun s_=>(if s_=true then some false else ((zd9 k n c k 0:Option (Bool ⊕ Unit)).bind fun o=>i9 (fun r=>some r) (fun s_2=>some true) o)))
theorem z1b (ax:Axs) (hx:NoAx ax) (k:Nat) (n:Net) (c:zbc) (v:Bool) (H:zlc k n c=some v):Pure Tryz.prog (EE ax) [] 11 [eNet n,zg9 c] (.bool v):=by
 rw [zlc] at H;refine en [.tmp 4] 43 [0,1] (hx.no _ (by decide)) (fn11 ax) ?_;intro h hh;apply d6;refine rk [2,3] [] hh fun h hh=>?_;obtain ⟨s_,H1,H⟩:=zad H;repeat apply d6
 refine cu [2,3,20] 2 (fun h bs=>(h 2=.ptr 0 0 3/\h 3=.ptr 1 0 3/\h 20=.bool s_)/\bs=[.cells true 3 [zax n.nodes,zay n.links,zaz n.edges],.cells true 3 [.int .i64 c.version,zau c.tables,zat c.steps]]) ?_ ?_
 .skip;rcases isp H1 with ⟨c1,H1⟩|⟨c1,H1⟩;rotate_left
  .skip;refine rk [2,3,20] [] (f2 hh (zAb c1)) fun h hh=>?_;cases H1;exact ce hh ⟨kq hh,rfl⟩
  refine rk [2,3,20] [] (f2 hh (zAa c1)) fun h hh=>?_;cases H1;exact ce hh ⟨kq hh,rfl⟩
 clear hh h;rintro h bs ⟨hh,rfl⟩;rcases isb H with ⟨c2,H⟩|⟨c2,H⟩;rotate_left
 .skip;refine cf (f2 hh c2) ?_;refine sk ?_;repeat apply d6
  refine rk [2,3,5] [] (f2 hh c2) fun h hh=>?_;obtain ⟨o,H1,H⟩:=zad H;refine cu [] 2 (fun h bs=>∃ s_2:Unit,o=.inr s_2/\(True)/\bs=[.cells true 3 [zax n.nodes,zay n.links,zaz n.edges],.cells true 3 [.int .i64 c.version,zau c.tables,zat c.steps]]) ?_ ?_
  .skip;apply fo;refine iw [2,3,5] (fun m h bs=>∃ (i:Int),zd9 k n c m i=some o/\(h 2=.ptr 0 0 3/\h 3=.ptr 1 0 3/\h 5=.int .i64 i)/\bs=[.cells true 3 [zax n.nodes,zay n.links,zaz n.edges],.cells true 3 [.int .i64 c.version,zau c.tables,zat c.steps]]) ?_ k _ _ ?_;rotate_left
   .exact ⟨0,H1,kq hh,rfl⟩
   clear hh h H1;rintro m h bs ⟨i,H1,hh,rfl⟩;rcases m with _|m
   .rw [zd9] at H1;cases H1
   rw [zd9] at H1;repeat apply d6
   refine rk [2,3,5,25] [] (f2 hh c2) fun h hh=>?_;rcases isp H1 with ⟨c3,H1⟩|⟨c3,H1⟩;rotate_left
   .skip;refine cf (f2 hh (zAb c3)) ?_;refine xk ?_;cases H1;exact ce hh ⟨_,rfl,kq hh,rfl⟩
   refine ct (f2 hh (zAa c3)) ?_;refine sk ?_;apply d6;apply fo;obtain ⟨g4,H1⟩:=isg H1;obtain ⟨bj,e5,H1⟩:=zad H1;apply d6;refine dk 9 [2,3,5,7] [] [] [(.tup [.int .i64 bj.1,.int .i64 bj.2],stL [.cells true 3 [zax n.nodes,zay n.links,zaz n.edges],.cells true 3 [.int .i64 c.version,zau c.tables,zat c.steps]])] (f3 hh c2 (zah g4)) trivial ?_ ?_
   .exact ⟨ff (gq (z1f ax hx k n (c.steps.length:Int) (gx c.tables i) bj e5 ) (by first|rfl|simp only [c2])),trivial⟩
   clear hh h;intro h hh;apply d6;refine rk [2,3,5,42] [] (f2 hh c2) fun h hh=>?_;rcases isp H1 with ⟨c6,H1⟩|⟨c6,H1⟩;rotate_left
   .skip;refine cf (f2 hh (zAb c6)) ?_;refine sk ?_;refine rk [2,3,5] [] (f2 hh c2) fun h hh=>?_;exact rd m hh ⟨(d9.wrap (i+1)),H1,kq hh,rfl⟩
   refine ct (f2 hh (zAa c6)) ?_;apply d6;refine rk [4] [] (f2 hh c2) fun h hh=>?_;cases H1;obtain rfl:=sinl H;exact rt hh
  clear hh h;rintro h bs ⟨s_2,rfl,hh,rfl⟩;replace H:=sinr H;apply d6;refine rk [4] [] (f2 hh c2) fun h hh=>?_;cases H;exact rt hh
 refine ct (f2 hh c2) ?_;apply d6;refine rk [4] [] (f2 hh c2) fun h hh=>?_;cases H;exact rt hh
noncomputable def arr2 (ax:Axs) (a b:T):Option T:=zi9 (EE ax) (fun x=>match x with|.tmp 0=>a|_=>b) 60 [(0,.tmp 0),(9,.tmp 1)]
theorem bd60 (ax:Axs):∀ (ρ:ep->T) (x y:ep),zi9 (EE ax) ρ 60 [(0,x),(9,y)]=arr2 ax (ρ x) (ρ y):=fun _ _ _=>rfl
theorem be60 (ax:Axs):∀ a b:Int,arr2 ax (.int .i64 a) (.int .i64 b)=some (.agg ((((zA 10).set 0 a).set 9 b).l.map (d7 .i64))):=fun _ _=>rfl
theorem yb7 (ax:Axs):(∀ (ρ:ep->T) (x y:ep),zi9 (EE ax) ρ 60 [(0,x),(9,y)]=arr2 ax (ρ x) (ρ y))/\(∀ a b:Int,arr2 ax (.int .i64 a) (.int .i64 b)=some (.agg ((((zA 10).set 0 a).set 9 b).l.map (d7 .i64)))):=⟨bd60 ax,be60 ax⟩
def zlm (k:Nat) (r:Rule):Option (Spot×Bool):=(if (0:Int)<=0/\0<(10:Int) then (if (0:Int)<=9/\9<(10:Int) then (if (gx r.mat.mask.l 0)=65535 then some ((⟨gx r.mat.bits.l 0,gx r.mat.bits.l 9⟩:Spot),(decide ((gx r.mat.mask.l 9)=65535))) else some ((⟨gx r.mat.bits.l 0,gx r.mat.bits.l 9⟩:Spot),false)) else none) else none)
theorem zqt (ax:Axs) (hx:NoAx ax) (k:Nat) (r:Rule) (v:Spot×Bool) (H:zlm k r=some v):Pure Tryz.prog (EE ax) [] 52 [zao r] (tupT [zd2 v.1,.bool v.2]):=by
 rw [zlm] at H;refine enN [.cell 2 106,.tmp 3] 24 [0] (hx.no _ (by decide)) (fn52 ax) ?_;intro h hh;apply d6;refine rk [1,2] [] hh fun h hh=>?_;apply d6;refine rk [2,4] [] hh fun h hh=>?_;obtain ⟨g1,H⟩:=isg H;obtain ⟨g2,H⟩:=isg H;rcases isp H with ⟨c3,H⟩|⟨c3,H⟩;rotate_left
 .skip;apply d6;refine ds 17 [(2,some 1),(20,some 920)] [2,3] [] [] [] (f3 hh (zAb c3) (f3 (zn8 (k:=.i64) (off:=10) (L:=(r.mat.mask.l.map (d7 .i64)++(r.mat.bits.l.map (d7 .i64)))) (r:=[]) r.mat.bits g1) (zn8 (k:=.i64) (off:=10) (L:=(r.mat.mask.l.map (d7 .i64)++(r.mat.bits.l.map (d7 .i64)))) (r:=[]) r.mat.bits g2) (zn7 (k:=.i64) (L:=(r.mat.mask.l.map (d7 .i64)++(r.mat.bits.l.map (d7 .i64)))) (r:=(r.mat.bits.l.map (d7 .i64))) r.mat.mask g1))) trivial trivial fun h hh=>?_;cases H;exact rtc hh
 apply d6;refine ds 17 [(2,some 1),(20,some 2)] [2,3] [] [] [] (f3 hh (zAa c3) (f3 (zn8 (k:=.i64) (off:=10) (L:=(r.mat.mask.l.map (d7 .i64)++(r.mat.bits.l.map (d7 .i64)))) (r:=[]) r.mat.bits g1) (zn8 (k:=.i64) (off:=10) (L:=(r.mat.mask.l.map (d7 .i64)++(r.mat.bits.l.map (d7 .i64)))) (r:=[]) r.mat.bits g2) (f2 (zn7 (k:=.i64) (L:=(r.mat.mask.l.map (d7 .i64)++(r.mat.bits.l.map (d7 .i64)))) (r:=(r.mat.bits.l.map (d7 .i64))) r.mat.mask g1) (zn7 (k:=.i64) (L:=(r.mat.mask.l.map (d7 .i64)++(r.mat.bits.l.map (d7 .i64)))) (r:=(r.mat.bits.l.map (d7 .i64))) r.mat.mask g2)))) trivial trivial fun h hh=>?_;cases H;exact rtc hh
def zbi (k:Nat) (s_:Spot):Option Pat:=some (⟨(((zA 10).set 0 65535).set 9 65535),(((zA 10).set 0 s_.port).set 9 s_.tag)⟩:Pat)
theorem zdj (ax:Axs) (hx:NoAx ax) (k:Nat) (s_:Spot) (v:Pat) (H:zbi k s_=some v):Pure Tryz.prog (EE ax) [] 61 [zd2 s_] (ePat v):=by
 rw [zbi] at H;refine en [.cell 2 101] 12 [0] (hx.no _ (by decide)) (fn61 ax) ?_;intro h hh;apply d6;refine rk [1,2] [] hh fun h hh=>?_;apply d6;refine rk [1,2,3] [] (f2 hh (yb7 ax)) fun h hh=>?_;apply d6;refine rk [2] [] (f2 hh (yb7 ax)) fun h hh=>?_;cases H;exact rtc hh
def zev (k:Nat) (s_:Spot) (r:Rule):Option Bool:=((zbi k s_).bind fun ai=>((zfk k r.mat ai).bind fun be=>some be))
theorem zkk (ax:Axs) (hx:NoAx ax) (k:Nat) (s_:Spot) (r:Rule) (v:Bool) (H:zev k s_ r=some v):Pure Tryz.prog (EE ax) [] 55 [zd2 s_,zao r] (.bool v):=by
 rw [zev] at H;refine en [.tmp 4] 10 [0,1] (hx.no _ (by decide)) (fn55 ax) ?_;intro h hh;apply d6;refine rk [2,3] [] hh fun h hh=>?_;obtain ⟨ai,e1,H⟩:=zad H;obtain ⟨be,e2,H⟩:=zad H;apply d6;refine dk 4 [4] [ePat ai] [] [(.bool be,stL [.cells true 2 [.int .i64 s_.port,.int .i64 s_.tag],.cells true 23 (d7 .i64 r.prio :: (r.mat.mask.l.map (d7 .i64)++(r.mat.bits.l.map (d7 .i64)++[d7 .i64 r.step,zbp r.outs])))])] hh ?_ ?_ ?_
 .exact ⟨(zdj ax hx k s_ ai e1 ).call _,trivial⟩
 .exact ⟨ff ((zmy ax hx k r.mat ai be e2 ).call _),trivial⟩
 clear hh h;intro h hh;cases H;exact rt hh
def zft (k:Nat) (r:Rule) (fv:Spot):Option Bool:=((zlm k r).bind fun bk=>(if bk.2=true then some false else ((zev k fv r).bind fun bf=>some bf)))
theorem zsa (ax:Axs) (hx:NoAx ax) (k:Nat) (r:Rule) (fv:Spot) (v:Bool) (H:zft k r fv=some v):Pure Tryz.prog (EE ax) [] 54 [zao r,.cp [.int .i64 fv.port,.int .i64 fv.tag]] (.bool v):=by
 rw [zft] at H;refine en [.tmp 3] 18 [0,1] (hx.no _ (by decide)) (fn54 ax) ?_;intro h hh;apply d6;refine rk [1,2] [] hh fun h hh=>?_;obtain ⟨bk,e1,H⟩:=zad H;apply d6;refine rkc [1,2,5] [] [(.tup [zd2 bk.1,.bool bk.2],stL [.cells true 23 (d7 .i64 r.prio :: (r.mat.mask.l.map (d7 .i64)++(r.mat.bits.l.map (d7 .i64)++[d7 .i64 r.step,zbp r.outs])))])] hh ?_ ?_
 .exact ⟨ff ((zqt ax hx k r bk e1 ).call _),trivial⟩
 clear hh h;intro h hh;rcases isb H with ⟨c2,H⟩|⟨c2,H⟩;rotate_left
 .skip;obtain ⟨bf,e3,H⟩:=zad H;apply d6;refine rkp [3] [] [.bool bf] (f2 hh c2) ?_ ?_
  .exact ⟨ff (gq (zkk ax hx k fv r bf e3 ) (by first|rfl|simp only [c2])),trivial⟩
  clear hh h;intro h hh;cases H;exact rt hh
 apply d6;refine rk [3] [] (f2 hh c2) fun h hh=>?_;cases H;exact rt hh
def zbd (k:Nat) (s_:List Rule) (f_:Rule->Option Bool):Nat->Int->Option (Int ⊕ Unit)
 |0,_=>none
 |m+1,i=>(if i<(s_.length:Int) then (if 0<=i/\i<(s_.length:Int) then ((f_ (gx s_ i)).bind fun r=>(if r=true then some (.inl i) else zbd k s_ f_ m (d9.wrap (i+1)))) else none) else some (.inr ()))
def zcx (k:Nat) (s_:List Rule) (f_:Rule->Option Bool):Option Int:=((zbd k s_ f_ k 0:Option (Int ⊕ Unit)).bind fun o=>i9 (fun r=>some r) (fun s_2=>some (-1)) o)
theorem zky (ax:Axs) (hx:NoAx ax) (k:Nat) (s_:List Rule) (f_:Rule->Option Bool) (v:Int) (H:zcx k s_ f_=some v) (f__f:Nat) (f__c:List T) (f__i:T.idsL 0 f__c=true) (f__h:∀ (y0:Rule) (w:Bool),f_ y0=some w->Pure Tryz.prog (EE ax) [] f__f ([]++[zao y0]++f__c) (.bool w)):Pure Tryz.prog (EE ax) [] 89 [zas s_,.fn f__f [] f__c] (.int .i64 v):=by
 rw [zcx] at H;refine en (ha:=by simp only [zb2,zc5,idsA,idsB,idsC,f__i,el]) [.tmp 4] 19 [0,1] (hx.no _ (by decide)) (fn89 ax) ?_;intro h hh;apply d6;refine rk [0,1] [] hh fun h hh=>?_;repeat apply d6
 refine rk [0,1,7,8] [] hh fun h hh=>?_;obtain ⟨o,H1,H⟩:=zad H;refine cu [] 0 (fun h bs=>∃ s_2:Unit,o=.inr s_2/\(True)/\bs=[]) ?_ ?_
 .skip;apply fo;refine iw [0,1,7,8] (fun m h bs=>∃ (i:Int),zbd k s_ f_ m i=some o/\(h 0=zas s_/\h 1=.fn f__f [] f__c/\h 7=.int .i64 (s_.length:Int)/\h 8=.int .i64 i)/\bs=[]) ?_ k _ _ ?_;rotate_left
  .exact ⟨0,H1,kq hh,rfl⟩
  clear hh h H1;rintro m h bs ⟨i,H1,hh,rfl⟩;rcases m with _|m
  .rw [zbd] at H1;cases H1
  rw [zbd] at H1;apply d6;refine rk [0,1,7,8,9] [] hh fun h hh=>?_;rcases isp H1 with ⟨c1,H1⟩|⟨c1,H1⟩;rotate_left
  .skip;apply d6;refine cf (f2 hh (zAb c1)) ?_;refine xk ?_;cases H1;exact ce (f2 hh ((fun m=>zdz (gb m) f__i))) ⟨_,rfl,kq hh,rfl⟩
  apply d6;refine ct (f2 hh (zAa c1)) ?_;refine sk ?_;apply d6;apply fo;apply d6;refine rk [0,1,5,7,8] [] hh fun h hh=>?_;obtain ⟨g2,H1⟩:=isg H1;obtain ⟨r,e3,H1⟩:=zad H1;apply d6;refine rkp [0,1,5,7,8,16] [] [.bool r] (f2 hh (zah g2)) ?_ ?_
  .exact ⟨ff ((f__h (gx s_ i) r e3).call _),trivial⟩
  clear hh h;intro h hh;rcases isb H1 with ⟨c4,H1⟩|⟨c4,H1⟩;rotate_left
  .skip;refine cf (f2 hh c4) ?_;refine sk ?_;refine rk [0,1,7,8] [] (f2 hh c4) fun h hh=>?_;exact rd m (f2 hh ((fun m=>zdz (gb m) f__i))) ⟨(d9.wrap (i+1)),H1,kq hh,rfl⟩
  refine ct (f2 hh c4) ?_;apply d6;refine rk [4] [] (f2 hh c4) fun h hh=>?_;cases H1;obtain rfl:=sinl H;exact rt hh
 clear hh h;rintro h bs ⟨s_2,rfl,hh,rfl⟩;replace H:=sinr H;apply d6;refine rk [4] [] hh fun h hh=>?_;cases H;exact rt hh
def zbr (k:Nat) (s_:List Rule) (f_:Rule->Option Bool):Option Bool:=((zcx k s_ f_).bind fun ba=>some (decide (0<=ba)))
theorem zje (ax:Axs) (hx:NoAx ax) (k:Nat) (s_:List Rule) (f_:Rule->Option Bool) (v:Bool) (H:zbr k s_ f_=some v) (f__f:Nat) (f__c:List T) (f__i:T.idsL 0 f__c=true) (f__h:∀ (y0:Rule) (w:Bool),f_ y0=some w->Pure Tryz.prog (EE ax) [] f__f ([]++[zao y0]++f__c) (.bool w)):Pure Tryz.prog (EE ax) [] 53 [zas s_,.fn f__f [] f__c] (.bool v):=by
 rw [zbr] at H;refine en (ha:=by simp only [zb2,zc5,idsA,idsB,idsC,f__i,el]) [.tmp 4] 9 [0,1] (hx.no _ (by decide)) (fn53 ax) ?_;intro h hh;apply d6;refine rk [0,1] [] hh fun h hh=>?_;obtain ⟨ba,e1,H⟩:=zad H;apply d6;refine rkp [4] [] [.int .i64 ba] hh ?_ ?_
 .exact ⟨ff ((zky ax hx k s_ f_ ba e1 f__f f__c f__i f__h).call _),trivial⟩
 clear hh h;intro h hh;cases H;exact rt hh
def exB (r:Rule):Bool:=decide (gx r.mat.mask.l 0=65535) && decide (gx r.mat.mask.l 9=65535)
def zdi (r:Rule):Spot:=⟨gx r.mat.bits.l 0,gx r.mat.bits.l 9⟩
theorem ybd (k:Nat) (r:Rule):zlm k r=some (zdi r,exB r):=by
  rw [zlm,zAc (by omega),zAc (by omega)];unfold zdi exB;split<;>simp_all
def addS (s:Spot) (i:Int):List (Spot×List Int)->List (Spot×List Int)
  |[]=>[(s,[i])]
  |(s',l) :: r=>if s=s' then (s',l++[i]) :: r else (s',l) :: addS s i r
def coll:List Rule->Int->List (Spot×List Int)->List (Spot×List Int)
  |[],_,a=>a
  |r :: l,i,a=>coll l (i+1) (if exB r=true then addS (zdi r) i a else a)
def ygj (k:Nat) (t:List Rule):List (Spot×List Int)->Option (List ze2)
  |[]=>some []
  |(s,l) :: r=>(zbr k t (fun x=>zft k x s)).bind fun m=>(ygj k t r).bind fun q=>some (if m=true then q else ⟨s.port,s.tag,l⟩ :: q)
def zir (k:Nat) (t:List Rule):Option (List ze2):=if t.length<1000000 then ygj k t (coll t 0 []) else none
theorem z51:∀ (l:List Rule) (r:Rule) (i:Int) (a:List (Spot×List Int)),coll (l++[r]) i a=if exB r=true then addS (zdi r) (i+(l.length:Int)) (coll l i a) else coll l i a
  |[],r,i,a=>by simp [coll]
  |x :: l,r,i,a=>by
    rw [fq,coll,coll,z51 l r (i+1)];have e:i+1+(l.length:Int)=i+((x :: l).length:Int):=by rw [ez];omega
    rw [e]
theorem yce (s:Spot) (i:Int):∀ a:List (Spot×List Int),(addS s i a).length<=a.length+1
  |[]=>ei _
  |(s',l) :: r=>by
    unfold addS;split
    . simp
    . have:=yce s i r;simp only [ez];omega
theorem z2n:∀ (l:List Rule) (i:Int) (a:List (Spot×List Int)),(coll l i a).length<=a.length+l.length
  |[],i,a=>ei _
  |x :: l,i,a=>by
    rw [coll];have h1:=z2n l (i+1) (if exB x=true then addS (zdi x) i a else a)
    have h2:(if exB x=true then addS (zdi x) i a else a).length<=a.length+1:=by
      split
      . exact yce _ _ _
      . omega
    rw [ez];omega
theorem yj5 {s:Spot} {i:Int}:∀ {a:List (Spot×List Int)} {n:Nat},(∀ p,p∈a->p.2.length<=n)->∀ p,p∈addS s i a->p.2.length<=n+1
  |[],n,h,p,hp=>by simp [addS] at hp;subst hp;simp
  |(s',l) :: r,n,h,p,hp=>by
    unfold addS at hp;split at hp
    . rcases ic.1 hp with rfl|hp
      . have:=h _ (.head _);simp only [eu,gz];simp only at this;omega
      . exact Nat.le_succ_of_le (h p (.tail _ hp))
    . rcases ic.1 hp with rfl|hp
      . exact Nat.le_succ_of_le (h _ (.head _))
      . exact yj5 (fun p hp=>h p (.tail _ hp)) p hp
theorem yjg:∀ (l:List Rule) (i:Int) (a:List (Spot×List Int)) (n:Nat),(∀ p,p∈a->p.2.length<=n)->∀ p,p∈coll l i a->p.2.length<=n+l.length
  |[],i,a,n,h=>h
  |x :: l,i,a,n,h=>by
    rw [coll,ez]
    have:=yjg l (i+1) (if exB x=true then addS (zdi x) i a else a) (n+1) (by
      split
      . exact yj5 h
      . exact fun p hp=>Nat.le_succ_of_le (h p hp))
    intro p hp;have:=this p hp;omega
theorem yj4 {s:Spot} {i:Int}:∀ {a:List (Spot×List Int)},(∀ p,p∈a->p.2≠[])->∀ p,p∈addS s i a->p.2≠[]
  |[],h,p,hp=>by simp [addS] at hp;subst hp;simp
  |(s',l) :: r,h,p,hp=>by
    unfold addS at hp;split at hp
    . rcases ic.1 hp with rfl|hp
      . simp
      . exact h p (.tail _ hp)
    . rcases ic.1 hp with rfl|hp
      . exact h _ (.head _)
      . exact yj4 (fun p hp=>h p (.tail _ hp)) p hp
theorem yjf:∀ (l:List Rule) (i:Int) (a:List (Spot×List Int)),(∀ p,p∈a->p.2≠[])->∀ p,p∈coll l i a->p.2≠[]
  |[],i,a,h=>h
  |x :: l,i,a,h=>by
    rw [coll];refine yjf l _ _ ?_;split
    . exact yj4 h
    . exact h
def entT (b:Nat->Nat):Nat->List (Spot×List Int)->List (T×T)
  |_,[]=>[]
  |j,(s,l) :: r=>(zd2 s,.arr (b j) 1 0 l.length l.length l.length) :: entT b (j+1) r
def kV (s:Spot):Value:=.agg ⟨[.int .i64 s.port,.int .i64 s.tag]⟩
theorem ycp:zg5 Tryz.prog 10000 106=some (true,[.int .i64,.int .i64]):=by kernel_rfl
theorem ypy (s:Spot):m8 10000 (kV s) (kV s)=true:=by
  show m8 (9998+1+1) (kV s) (kV s)=true;simp [m8,kV]
theorem ye3 (s s':Spot):eqW Tryz.prog 106 (kV s) (kV s')=some (decide (s=s')):=by
  have h:=you (P:=Tryz.prog) 10000 ycp (xs:=[.int .i64 s.port,.int .i64 s.tag]) (ys:=[.int .i64 s'.port,.int .i64 s'.tag]) (by simp [zfv,ckV]) (by simp [zfv,ckV])
  have e:zbl Tryz.prog (Op.equal 106 (kV s) (kV s'))=some (decide (s=s')):=by
    refine h.trans ?_;obtain ⟨p,t⟩:=s;obtain ⟨p',t'⟩:=s';simp [eqVs,ztn];by_cases h1:p=p'<;>by_cases h2:t=t'<;>simp [h1,h2]
  unfold eqW;rw [e];by_cases hs:s=s'
  . subst hs;rw [zAa rfl];simp only;rw [ypy,zbn]
  . rw [zAb hs]
theorem z9c (ax:Axs) (s:Spot):eqK Tryz.prog (EE ax) 106 (kV s)=some (eqW Tryz.prog 106 (kV s)):=by
  have h1:zxp (EE ax) 106=true:=by unfold zxp;rw [z6x];rfl
  have h2:keyV (EE ax) 106 (kV s)=false:=z4w h1;have h3:∀ b,keyC Tryz.prog b 106 (kV s)=true:=fun b=>by cases b<;>rfl
  unfold eqK;rw [h2,h1,zqu];unfold keyW;rw [h3,h3];rfl
def zrn (s:Spot):List (Spot×List Int)->Nat->Option (Nat×List Int)
  |[],_=>none
  |(s',l) :: r,j=>if s=s' then some (j,l) else zrn s r (j+1)
theorem zz4 {s:Spot}:∀ {a:List (Spot×List Int)} {j k:Nat} {l:List Int},zrn s a j=some (k,l)->j<=k/\a[k - j]?=some (s,l)/\∀ i,addS s i a=a.set (k - j) (s,l++[i])
  |[],j,k,l,h=>by simp [zrn] at h
  |(s',l') :: r,j,k,l,h=>by
    unfold zrn at h;split at h
    . rename_i hs;simp only [dy,Prod.mk.injEq] at h;obtain ⟨rfl,rfl⟩:=h;subst hs;refine ⟨ei _,by simp,fun i=>?_⟩;rw [addS,zAc rfl];simp
    . rename_i hs;obtain ⟨h1,h2,h3⟩:=zz4 h;have e:k - j=(k - (j+1))+1:=by omega
      refine ⟨by omega,by rw [e,jo];exact h2,fun i=>?_⟩;rw [addS,zAd hs,e,kb,h3]
theorem zz5 {s:Spot}:∀ {a:List (Spot×List Int)} {j:Nat},zrn s a j=none->∀ i,addS s i a=a++[(s,[i])]
  |[],j,h=>fun i=>rfl
  |(s',l') :: r,j,h=>by
    unfold zrn at h;split at h
    . simp at h
    . rename_i hs;intro i;rw [addS,zAd hs,zz5 h i];rfl
def arrT (b:Nat->Nat) (p:Nat×List Int):Nat×T:=(p.1,.arr (b p.1) 1 0 p.2.length p.2.length p.2.length)
theorem zm8 (s:Spot) (b:Nat->Nat):∀ (a:List (Spot×List Int)) (j:Nat),zqh (eqW Tryz.prog 106 (kV s)) (entT b j a) j=some ((zrn s a j).map (arrT b))
  |[],j=>rfl
  |(s',l) :: r,j=>by
    have hk:zq7 (zd2 s')=some (kV s'):=rfl;rw [entT,zqh,hk];simp only;rw [ye3,zrn];by_cases hs:s=s'
    . rw [zAa hs,zAc hs];rfl
    . rw [zAb hs,zAd hs];exact zm8 s b r (j+1)
theorem yhg (ax:Axs):zwc (EE ax) 98=some (106,37):=by unfold zwc;rw [ti98]
theorem zv6 (ax:Axs) (S:TS) (x:T) (l:List T) (ok:Bool):zdl (EE ax) S 98 x (.agg l) ok=none:=by
  unfold zdl;rw [ti98];simp only;unfold ziv;rw [z6x];rfl
theorem ysi (ax:Axs) (S:TS):∀ x y:ep,tBin Tryz.prog (EE ax) S 37 .eql x y .nils .nils=some (.bool true):=fun x y=>by
  unfold tBin;simp only [ti37];rfl
theorem ysj (ax:Axs) {S:TS} {b N n:Nat} {z:Bool} {l:List T} (h:S.box b=.cells z N l) (hN:0<N):∀ x y:ep,tBin Tryz.prog (EE ax) S 37 .eql x y (.arr b 1 0 n n N) .nils=some (.bool false):=fun x y=>by
  unfold tBin;simp only [ti37]
  have:tNil S (.slice 3) (.arr b 1 0 n n N)=some false:=by
    show (bif S.has b N && Nat.blt 0 N then some false else none)=_;have e:S.has b N=true:=by unfold TS.has;rw [h];exact Nat.beq_refl N
    rw [e,zaf.2 hN];rfl
  rw [this];rfl
theorem zv5 (ax : Axs) {S : TS} {m : List (T × T)} (hm : S.box 0 = .map m) (s : Spot) : zij Tryz.prog (EE ax) S 98 (.mp 0) (.agg [.int .i64 s.port, .int .i64 s.tag]) false = match zqh (eqW Tryz.prog 106 (kV s)) m 0 with
    |some r=>some (zti false .nils (r.map (·.2)))
    |none=>none:=by
  have hk:zq7 (.agg [.int .i64 s.port,.int .i64 s.tag])=some (kV s):=rfl;have hw:zxp (EE ax) 106=true:=by unfold zxp;rw [z6x];rfl
  have hz:zer ⟨.slice 3,1,24,[.slice none 0 0]⟩=some .nils:=rfl;unfold zij;rw [yhg,hk];simp only;rw [hw,zbn,z9c,ti37];simp only [hz,hm];cases zqh (eqW Tryz.prog 106 (kV s)) m 0<;>rfl
theorem z0a (ax : Axs) {S : TS} {m : List (T × T)} (hm : S.box 0 = .map m) (s : Spot) : zin Tryz.prog (EE ax) S 98 (.agg [.int .i64 s.port, .int .i64 s.tag]) (.mp 0) = match zqh (eqW Tryz.prog 106 (kV s)) m 0 with
    |some f=>some (tEnt m .nils f,S.set 0 (.map (ymu m (zd2 s) (ymr .nils f) f)))
    |none=>none:=by
  have hk:zq7 (.agg [.int .i64 s.port,.int .i64 s.tag])=some (kV s):=rfl;have hz:zer ⟨.slice 3,1,24,[.slice none 0 0]⟩=some .nils:=rfl;unfold zin;rw [yhg,hk];simp only;rw [z9c,ti37];simp only [hm,hz];cases zqh (eqW Tryz.prog 106 (kV s)) m 0<;>rfl
theorem ybj (b:Nat->Nat):∀ (a:List (Spot×List Int)) (j:Nat),(entT b j a).length=a.length
  |[],j=>rfl
  |(s,l) :: r,j=>by rw [entT,ez,ez,ybj b r]
theorem z5p (b:Nat->Nat) (s:Spot) (l:List Int):∀ (a:List (Spot×List Int)) (j:Nat),entT b j (a++[(s,l)])=entT b j a++[(zd2 s,.arr (b (j+a.length)) 1 0 l.length l.length l.length)]
  |[],j=>rfl
  |(s',l') :: r,j=>by
    rw [fq,entT,entT,z5p b s l r,ez,show j+1+r.length=j+(r.length+1) by omega];rfl
theorem z0c {b b':Nat->Nat}:∀ (a:List (Spot×List Int)) (j:Nat),(∀ k,j<=k->k<j+a.length->b k=b' k)->entT b j a=entT b' j a
  |[],j,h=>rfl
  |(s,l) :: r,j,h=>by
    rw [entT,entT,h j (ei _) (by simp),z0c r (j+1) fun k h1 h2=>h k (by omega) (by rw [ez];omega)]
theorem ybi (b:Nat->Nat) (s:Spot) (l:List Int):∀ (a:List (Spot×List Int)) (j k:Nat),k<a.length->entT b j (a.set k (s,l))=(entT b j a).set k (zd2 s,.arr (b (j+k)) 1 0 l.length l.length l.length)
  |[],j,k,h=>by simp at h
  |(s',l') :: r,j,0,h=>rfl
  |(s',l') :: r,j,k+1,h=>by
    rw [kb,entT,entT,ybi b s l r (j+1) k (by simpa using h),kb,show j+1+k=j+(k+1) by omega]
structure BInv (S:TS) (a:List (Spot×List Int)) (b:Nat->Nat):Prop where
  map:S.box 0=.map (entT b 0 a)
  ord:S.box 1=.cells false (a.length*2) (vecC zd2 (a.map (·.1)))
  val:∀ j p,a[j]?=some p->S.box (b j)=.cells false p.2.length (p.2.map (d7 .i64))
  inj:∀ j j',j<a.length->j'<a.length->b j=b j'->j=j'
  at_:∀ j,j<a.length->2<=b j/\b j<S.n
  two:2<=S.n
theorem BInv.ext {S S1:TS} {a:List (Spot×List Int)} {b:Nat->Nat} (h:BInv S a b) (hn:S.n<=S1.n) (hb:∀ c,c<S.n->S1.box c=S.box c):BInv S1 a b:=by
  have h2:=h.two;refine ⟨by rw [hb 0 (by omega)];exact h.map,by rw [hb 1 (by omega)];exact h.ord,fun j p hj=>?_,h.inj,fun j hj=>⟨(h.at_ j hj).1,fh (h.at_ j hj).2 hn⟩,by omega⟩
  have hjl:j<a.length:=by
    rcases ko j a.length with q|q
    . exact q
    . rw [je q] at hj;simp at hj
  rw [hb _ (h.at_ j hjl).2];exact h.val j p hj
section
variable {ax:Axs} {N:Nat} {h h':Nat->T} {S S':TS} {Q:Exit->(Nat->T)->TS->Prop} {F:Prop} {C:(Nat->T)->Prop} {R:(Nat->T)->Prop}
theorem TSas {S:TS} {d c:Nat} {x y:Box} (h:c≠S.n) (h2:c≠d):((S.set d y).add x).box c=S.box c:=by
  rw [o9 _ _ (show c≠(S.set d y).n from h),gy _ _ h2]
theorem z81 (S:TS) (x:Box):(S.add x).n=S.n+1:=ej rfl rfl
theorem z80 (S:TS) (b:Nat) (x:Box):(S.set b x).n=S.n:=ej rfl rfl
theorem zp7 {x:TypeId} {y z:ep}:zco (.mapEntry x y z)=false:=ej rfl rfl
theorem zmq {x:TypeId} {y z w:ep}:zco (.entryStore x y z w)=false:=ej rfl rfl
theorem rkS {id:Nat} {ops:Array Oper} {ob:Prop} {S3:TS} (K own:List Nat) (outs:List (T×TS)) (f:F) (ho:ob) (hq:∀ h2,C h2->R h2) (hd:ze3 N ops.toList=true:=by kernel_rfl) (hr:F->runT Tryz.prog (EE ax) [] own ops.toList ops.toList h S outs=some (ob,h',S3):=by intro q;simp (maxSteps:=900000) (disch:=first|omega|decide | (simp only [lzA,ed,fm];done)|fail) only [qj,iu,z81,z80,o9,gy,yp7,yp8,zp1,zmg,zp7,zmq,b0,b1,b2,b3,b4,b5,b6,b7,b8,ed,gw,ee,fy,reduceIte,reduceCtorEq,tB0,tB1,tB2,tB3,zgk,zgj,zes,zl0,zl1,zl2,zl3,dz,aggO,zbb,za1,zc9,zan,zdu,zaq,zab,zaj,zbg,ew,gh,fg,zbw,zbv,zcj,znv,zwt,zr5,ziv,z0x,z0w,zcg,zcd,zce,zer,zdb,zda,ze0,zez,zby,za3,zbx,zb1,za4,zb0,q,eqA,eqB,eqsA,eqsB,apA,apB,tSrc];with_reducible rfl) (hC:F->∀ h2,KP h' h2 K->C h2:=by intro q h2 k;simp only [KP,za8,ee,reduceIte,gp,gn,q] at k;first|exact k|exact trivial) (hR:∀ h2,R h2->Q .normal h2 (S3):=by intro h2 k;first | (simp only [onT,onTB];exact k)|exact k):TW Tryz.prog (EE ax) [] N (.region id ops false) h S Q :=
  TW.region (zbq ax) own outs hd (hr f) ho (hR _ (hq _ (hC f _ (KP.refl _ K))))
theorem rdS {id:Nat} {ops:Array Oper} {ob1 ob2:Prop} {S3:TS} {h1:Nat->T} (n:Nat) (K:List Nat) (outsP:List T) (own:List Nat) (outs:List (T×TS)) (f:F) (ho1:ob1) (ho2:ob2) (hq:∀ h2,C h2->R h2) (hd:ze3 N ops.toList=true:=by kernel_rfl) (hok:zjc n ops.toList=true:=by kernel_rfl) (hp:F->runP Tryz.prog (EE ax) [] ops.toList (ops.toList.take n) h S outsP=some (ob1,h1):=by intro q;simp (maxSteps:=900000) (disch:=first|omega|decide | (simp only [lzA,ed,fm];done)|fail) only [qj,iu,z81,z80,o9,gy,yp7,yp8,zp1,zmg,zp7,zmq,b0,b1,b2,b3,b4,b5,b6,b7,b8,ed,gw,ee,fy,reduceIte,reduceCtorEq,tB0,tB1,tB2,tB3,zgk,zgj,zes,zl0,zl1,zl2,zl3,dz,aggO,zbb,za1,zc9,zan,zdu,zaq,zab,zaj,zbg,ew,gh,fg,zbw,zbv,zcj,znv,zwt,zr5,ziv,z0x,z0w,zcg,zcd,zce,zer,zdb,zda,ze0,zez,zby,za3,zbx,zb1,za4,zb0,q,eqA,eqB,eqsA,eqsB,apA,apB,tSrc];with_reducible rfl) (hr:F->runT Tryz.prog (EE ax) [] own ops.toList (ops.toList.drop n) h1 S outs=some (ob2,h',S3):=by intro q;simp (maxSteps:=900000) (disch:=first|omega|decide | (simp only [lzA,ed,fm];done)|fail) only [qj,iu,z81,z80,o9,gy,yp7,yp8,zp1,zmg,zp7,zmq,b0,b1,b2,b3,b4,b5,b6,b7,b8,ed,gw,ee,fy,reduceIte,reduceCtorEq,tB0,tB1,tB2,tB3,zgk,zgj,zes,zl0,zl1,zl2,zl3,dz,aggO,zbb,za1,zc9,zan,zdu,zaq,zab,zaj,zbg,ew,gh,fg,zbw,zbv,zcj,znv,zwt,zr5,ziv,z0x,z0w,zcg,zcd,zce,zer,zdb,zda,ze0,zez,zby,za3,zbx,zb1,za4,zb0,q,eqA,eqB,eqsA,eqsB,apA,apB,tSrc];with_reducible rfl) (hC:F->∀ h2,KP h' h2 K->C h2:=by intro q h2 k;simp only [KP,za8,ee,reduceIte,gp,gn,q] at k;first|exact k|exact trivial) (hR:∀ h2,R h2->Q .normal h2 (S3):=by intro h2 k;first | (simp only [onT,onTB];exact k)|exact k):TW Tryz.prog (EE ax) [] N (.region id ops true) h S Q :=
  TW.draw (zbq ax) n outsP own outs hd hok (hp f) ho1 (hr f) ho2 (hR _ (hq _ (hC f _ (KP.refl _ K))))
end
theorem TRel.freezeM {GL:List (Nat×List Value)} {A:Nat->Prop} {β:Bx} {S:TS} {s:CS} (hT:TRel GL A β S s) {bm b e len M j:Nat} {z:Bool} {cs:List T} {l:List (T×T)} {k:T} (L:List T) (hm:S.box bm=.map l) (hj:l[j]?=some (k,.arr b e 0 len len M)) (hS:S.box b=.cells z M cs) (he:0<e) (hoff:0+len*e<=M) (hL:(cs.drop 0).take (len*e)=L.flatMap gt) (hs:∀ t,t∈L->t.cells.length=e) (hlen:L.length=len) :
    ∃ A' β',TRel GL A' β' ((S.set b .gone).set bm (.map (l.set j (k,.lst e L)))) s/\Stp A β s A' β' s:=by
  have hne:bm≠b:=fun hh=>by rw [hh,hS] at hm;cases hm
  obtain ⟨A',β',k1,k2,k3⟩:=hT.freeze hS;obtain ⟨r,es,q1,q2,q3⟩:=hT.maps bm l hm;obtain ⟨v,w,g1,g2,g3⟩:=VM.get q3 hj;have hw:=k3 g3 he hoff hL hs hlen (ei _);have hv:=k2.vt hT g2;obtain ⟨r',es',p1,p2,p3⟩:=k1.maps bm l (by rw [gy _ _ hne];exact hm)
  have hr:r'=r:=by
    obtain ⟨l2,h1,h2⟩:=k2.bx bm _ q1;rw [p1] at h1;cases h1;exact h2.symm
  subst hr;have hes:es'=es:=by rw [q2] at p2;cases p2;rfl
  subst hes;have hvm:=VM.set hv hw j p3
  have hse:es'.set j (v,w)=es':=by
    apply nv;intro q;rw [qk];split
    . rename_i hq;subst hq;rw [zAc (et.1 g1).1,g1]
    . rfl
  rw [hse] at hvm;refine ⟨A',β',⟨k1.inr,k1.inv,k1.alt,k1.dis,k1.inj,k1.next,fun b' z' N' l' hb=>?_,fun b' l' hb=>?_,k1.glob⟩,k2⟩
  . by_cases hbb:b'=bm
    . subst hbb;rw [iu] at hb;cases hb
    . rw [gy _ _ hbb] at hb;exact k1.cells b' z' N' l' hb
  . by_cases hbb:b'=bm
    . subst hbb;rw [iu] at hb;cases hb;exact ⟨r',es',p1,p2,hvm⟩
    . rw [gy _ _ hbb] at hb;exact k1.maps b' l' hb
theorem TW.freezeM {P:Program} {Γ:Env} {GL:List (Nat×List Value)} {N:Nat} {h:Nat->T} {S:TS} {Q:Exit->(Nat->T)->TS->Prop} {c:Code} {bm b e len M j:Nat} {z:Bool} {cs:List T} {l:List (T×T)} {k:T} (L:List T) (hm:S.box bm=.map l) (hj:l[j]?=some (k,.arr b e 0 len len M)) (hS:S.box b=.cells z M cs) (he:0<e) (hoff:0+len*e<=M) (hL:(cs.drop 0).take (len*e)=L.flatMap gt) (hs:∀ t,t∈L->t.cells.length=e) (hlen:L.length=len)
    (k:TW P Γ GL N c h ((S.set b .gone).set bm (.map (l.set j (k,.lst e L)))) Q):TW P Γ GL N c h S Q:=by
  intro A β fr s hF hT;obtain ⟨A',β',k1,k2⟩:=hT.freezeM L hm hj hS he hoff hL hs hlen;have hF':FrOk A' β' (zaa s.obj) N h fr:=⟨hF.nt,hF.le,fun u=>k2.vt hT (hF.slot u)⟩;refine (k A' β' fr s hF' k1).mono ?_;rintro e2 fr2 s2 ⟨h2,S2,l2,q2⟩;exact ⟨h2,S2,Left.trans (h':=h) (fr':=fr) hT.le k2 l2,q2⟩
def entZ:List (Spot×List Int)->List (T×T)
  |[]=>[]
  |(s,l) :: r=>(zd2 s,ints l) :: entZ r
theorem ybh:∀ a:List (Spot×List Int),(entZ a).length=a.length
  |[]=>rfl
  |(s,l) :: r=>by rw [entZ,ez,ez,ybh r]
theorem z5o (s:Spot) (l:List Int):∀ a:List (Spot×List Int),entZ (a++[(s,l)])=entZ a++[(zd2 s,ints l)]
  |[]=>rfl
  |(s',l') :: r=>by rw [fq,entZ,entZ,z5o s l r];rfl
theorem yid {ax:Axs} {N:Nat} {h:Nat->T} {Q:Exit->(Nat->T)->TS->Prop} {c:Code} {a:List (Spot×List Int)} {b:Nat->Nat} {x:Box}:∀ (n k:Nat) (S:TS),k+n=a.length->S.box 0=.map (entZ (a.take k)++entT b k (a.drop k))->(∀ j p,k<=j->a[j]?=some p->S.box (b j)=.cells false p.2.length (p.2.map (d7 .i64)))->(∀ j j',j<a.length->j'<a.length->b j=b j'->j=j')->(∀ j,j<a.length->2<=b j)->S.box 1=x ->
    (∀ S':TS,S'.n=S.n->S'.box 0=.map (entZ a)->S'.box 1=x->TW Tryz.prog (EE ax) [] N c h S' Q)->TW Tryz.prog (EE ax) [] N c h S Q
  |0,k,S,hk,hm,hv,hi,h2,h1,K=>by
    refine K S rfl ?_ h1;rw [hm,gc (by omega),gu (by omega)];rw [entT,fp]
  |n+1,k,S,hk,hm,hv,hi,h2,h1,K=>by
    have hkl:k<a.length:=by omega
    obtain ⟨⟨s,l⟩,hp⟩:∃ p,a[k]=p:=⟨_,rfl⟩;have hak:a[k]?=some (s,l):=by rw [ef hkl,hp]
    have hd:a.drop k=(s,l) :: a.drop (k+1):=by rw [i8 hkl,hp]
    have ht:a.take (k+1)=a.take k++[(s,l)]:=by rw [List.take_add_one,hak];rfl
    have hlk:(entZ (a.take k)).length=k:=by rw [ybh,gi];omega
    have hbk:=h2 k hkl;rw [hd,entT] at hm;have hval:=hv k _ (ei _) hak;refine TW.freezeM (bm:=0) (b:=b k) (e:=1) (len:=l.length) (M:=l.length) (j:=k) (k:=zd2 s) (l.map (d7 .i64)) hm (by rw [gm (by omega),hlk,ln];rfl) hval (by omega) (by omega) ?_ ?_ (by simp) ?_
    . rw [fl,gc (by simp),zgb fun _=>rfl]
    . intro t ht;simp only [ip] at ht;obtain ⟨i,_,rfl⟩:=ht;rfl
    . refine yid n (k+1) _ (by omega) ?_ (fun j p hj hp=>?_) hi h2 ?_ fun S' e1 e2 e3=>K S' e1 e2 e3
      . rw [iu,ht,z5o,List.set_append_right _ _ (by omega),hlk,ln,ku,ey];rfl
      . have hjl:j<a.length:=(et.1 hp).1;have:=h2 j hjl;rw [gy _ _ (by omega),gy _ _ (fun hh=>by have:=hi _ _ hjl hkl hh;omega)];exact hv j p (by omega) hp
      . rw [gy _ _ (by omega),gy _ _ (by omega)];exact h1
theorem zxl (s:Spot) (i:Int):∀ a:List (Spot×List Int),(addS s i a).map (·.1)=if s∈a.map (·.1) then a.map (·.1) else a.map (·.1)++[s]
  |[]=>by simp [addS]
  |(s',l) :: r=>by
    unfold addS;by_cases h:s=s'
    . subst h;rw [zAc rfl];simp
    . rw [zAd h,ge,zxl s i r];by_cases h2:s∈r.map (·.1)
      . rw [zAc h2,zAc (by rw [ge];exact .tail _ h2)];rfl
      . rw [zAd h2,zAd (by
          rw [ge];intro q;rcases ic.1 q with q|q
          . exact h q
          . exact h2 q)];rfl
theorem z0k:∀ (l:List Rule) (i:Int) (a:List (Spot×List Int)),(a.map (·.1)).Nodup->((coll l i a).map (·.1)).Nodup
  |[],i,a,h=>h
  |x :: l,i,a,h=>by
    rw [coll];refine z0k l _ _ ?_;split
    . rw [zxl];split
      . exact h
      . rename_i hn;rw [List.nodup_append];exact ⟨h,by simp,fun x hx y hy hxy=>hn (by simp at hy;rw [<- hy,<- hxy];exact hx)⟩
    . exact h
theorem ya9 {s:Spot} {l:List Int}:∀ {a:List (Spot×List Int)} {i j:Nat},(a.map (·.1)).Nodup->a[i]?=some (s,l)->zrn s a j=some (j+i,l)
  |[],i,j,_,h=>by simp at h
  |(s',l') :: r,0,j,_,h=>by
    simp at h;obtain ⟨rfl,rfl⟩:=h;rw [zrn,zAc rfl];rfl
  |(s',l') :: r,i+1,j,hn,h=>by
    rw [ge,List.nodup_cons] at hn;have hm:r[i]?=some (s,l):=by simpa using h
    have hne:s≠s':=fun hh=>hn.1 (by rw [<- hh];exact ip.2 ⟨(s,l),ij hm,rfl⟩);rw [zrn,zAd hne,ya9 hn.2 hm,show j+1+i=j+(i+1) by omega]
theorem zyn (s:Spot):∀ (a:List (Spot×List Int)) (j:Nat),zqh (eqW Tryz.prog 106 (kV s)) (entZ a) j=some ((zrn s a j).map fun p=>(p.1,ints p.2))
  |[],j=>rfl
  |(s',l) :: r,j=>by
    have hk:zq7 (zd2 s')=some (kV s'):=rfl;rw [entZ,zqh,hk];simp only;rw [ye3,zrn];by_cases hs:s=s'
    . rw [zAa hs,zAc hs];rfl
    . rw [zAb hs,zAd hs];exact zyn s r (j+1)
theorem zu5 (ax:Axs) (hx:NoAx ax) (k:Nat) (t:List Rule) (v:List ze2) (H:zir k t=some v):Pure Tryz.prog (EE ax) [] 20 [zas t] (ztc v):=by
  unfold zir at H;obtain ⟨hlen,H⟩:=isg H;refine en [.tmp 2] 68 [0] (hx.no _ (by decide)) (fn20 ax) ?_;intro h hh;apply d6;refine rk [0] [] hh fun h hh=>?_;apply d6;refine rk [0,3] [] hh fun h hh=>?_;apply d6;refine rk [0,3,4] [] hh fun h hh=>?_;repeat apply d6
  refine rk [0,3,4,14,15,16] [] hh fun h hh=>?_;refine TW.vec 4 2 hh.2.2.1 ?_;have hb0:BInv ((stL [.map []]).add (.cells false 0 [])) [] (fun _=>0):=⟨rfl,rfl,fun j p hj=>by simp at hj,fun j j' hj=>absurd hj (Nat.not_lt_zero _),fun j hj=>absurd hj (Nat.not_lt_zero _),ei _⟩;refine TW.mono (Q:=fun e h' S'=>e=.normal/\∃ b,BInv S' (coll t 0 []) b/\h' 0=zas t/\h' 3=.mp 0/\h' 4=.arr 1 2 0 (coll t 0 []).length (coll t 0 []).length ((coll t 0 []).length*2)) ?_ ?_
  . apply fo;refine TW.loop (fun m h S=>∃ (i:Nat) (b:Nat->Nat),m+i=t.length/\BInv S (coll (t.take i) 0 []) b/\h 0=zas t/\h 3=.mp 0/\h 4=.arr 1 2 0 (coll (t.take i) 0 []).length (coll (t.take i) 0 []).length ((coll (t.take i) 0 []).length*2)/\h 14=.lst 23 (t.map zao)/\h 15=.int .i64 (t.length:Int)/\h 16=.int .i64 (i:Int)) ?_ t.length _ _ ?_;rotate_left
    . refine ⟨0,fun _=>0,by omega,hb0,?_⟩;obtain ⟨q1,q2,q3,q4,q5,q6⟩:=hh;exact ⟨q1,q2,rfl,q4,q5,q6⟩
    clear hb0 hh h;rintro m h S ⟨i,b,hmi,hB,hh⟩;apply d6;generalize ha:coll (t.take i) 0 []=a at hB hh;refine rkS [0,3,4,14,15,16,17] [] [] hh trivial fun h hh=>?_;by_cases c:(i:Int)<t.length
    rotate_left
    . apply d6;refine cf (f2 hh (zAb c)) ?_;refine TW.exit ?_;refine ⟨rfl,b,?_,?_⟩
      . have:t.take i=t:=gc (by omega);rw [this] at ha;rw [ha];exact hB
      . have:t.take i=t:=gc (by omega);rw [this] at ha;rw [ha];exact ⟨hh.1,hh.2.1,hh.2.2.1⟩
    have hi:i<t.length:=by omega
    apply d6;refine ct (f2 hh (zAa c)) ?_;refine sk ?_;apply d6;refine TW.mono (Q:=fun e h' S'=>e=.normal/\∃ b',BInv S' (coll (t.take (i+1)) 0 []) b'/\h' 0=zas t/\h' 3=.mp 0/\h' 4=.arr 1 2 0 (coll (t.take (i+1)) 0 []).length (coll (t.take (i+1)) 0 []).length ((coll (t.take (i+1)) 0 []).length*2)/\h' 14=.lst 23 (t.map zao)/\h' 15=.int .i64 (t.length:Int)/\h' 16=.int .i64 (i:Int)) ?_ ?_;rotate_left
    . rintro e h2 S2 ⟨rfl,bb,hB2,hh2⟩;refine rkS [0,3,4,14,15,16] [] [] hh2 trivial ?_;clear hh2 h2;intro h2 hh2;refine ⟨m - 1,by omega,i+1,bb,by omega,hB2,?_⟩;have:d9.wrap ((i:Int)+1)=((i+1:Nat):Int):=by rw [wr64 (by omega)];omega
      rw [this] at hh2;exact hh2
    apply fo;apply d6;have hti:t[i]?=some t[i]:=ef hi;generalize hr:t[i]=r at hti;refine rkS [0,3,4,5,6,14,15,16] [] [] (f3 hh hB.map hti) trivial fun h hh=>?_;generalize hS1:TS.set _ _ _=S1;have en1:S1.n=S.n+1:=by rw [<- hS1];rfl
    have en0:=hB.two;have eb1:S1.box S.n=.cells true 23 (d7 .i64 r.prio :: (r.mat.mask.l.map (d7 .i64)++(r.mat.bits.l.map (d7 .i64)++[d7 .i64 r.step,zbp r.outs]))):=by rw [<- hS1,iu];rfl
    have hB1:BInv S1 a b:=hB.ext (by omega) fun c hc=>by rw [<- hS1,gy _ _ (by omega),o9 _ _ (by omega)]
    clear hS1 hB;apply d6;refine rkS [0,3,4,5,7,8,14,15,16] [] [(.tup [zd2 (zdi r),.bool (exB r)],S1)] (f3 hh eb1 (z6x ax)) ?_ ?_
    . exact ⟨ff ((zqt ax hx k r _ (ybd k r)).call _),trivial⟩
    clear hh h;intro h hh;generalize hS2:TS.set _ _ _=S2;have en2:S2.n=S1.n+1:=by rw [<- hS2];rfl
    generalize hs:zdi r=s at hS2 hh;have eb2:S2.box S1.n=.cells true 2 [.int .i64 s.port,.int .i64 s.tag]:=by rw [<- hS2,iu]
    have hB2:BInv S2 a b:=hB1.ext (by omega) fun c hc=>by rw [<- hS2,gy _ _ (by omega),o9 _ _ (by omega)]
    clear hS2 eb1 hB1
    have hnext:coll (t.take (i+1)) 0 []=if exB r=true then addS s i a else a:=by
      rw [<- ha,<- hs,List.take_add_one,hti];have hl:(t.take i).length=i:=by rw [gi];omega
      have:=z51 (t.take i) r 0 [];rw [hl] at this;simpa using this
    apply d6;refine rkS [0,3,4,5,7,8,14,15,16,26] [] [] hh trivial fun h hh=>?_
    cases he:exB r with
    |false =>
      rw [he] at hh hnext;refine cf hh ?_;refine sk ?_;rw [hnext];exact ⟨by first|rfl|trivial,b,hB2,hh.1,hh.2.1,hh.2.2.1,hh.2.2.2.2.2.2.1,hh.2.2.2.2.2.2.2.1,hh.2.2.2.2.2.2.2.2.1⟩
    |true =>
      rw [he] at hh hnext;refine ct hh ?_
      have hal:a.length<1000000:=by
        have:=z2n (t.take i) 0 [];rw [ha,gi] at this;simp at this;omega
      have hlp:∀ p,p∈a->p.2.length<1000000:=fun p hp=>by
        have:=yjg (t.take i) 0 [] 0 (fun p hp=>by simp at hp) p (by rw [ha];exact hp);rw [gi] at this;omega
      cases hf:zrn s a 0 with
      |none =>
        have hlook:zij Tryz.prog (EE ax) S2 98 (.mp 0) (.agg [.int .i64 s.port,.int .i64 s.tag]) false=some .nils:=by
          rw [zv5 ax hB2.map,zm8,hf];rfl
        repeat apply d6
        refine rkS [0,3,4,5,7,14,15,16,30] [] [] (f3 hh eb2 (f3 (zv6 ax S2) hlook (ysi ax S2))) trivial fun h hh=>?_;refine ct hh ?_;refine rkS [0,3,4,5,7,14,15,16] [] [] (f3 hh eb2 (f3 hB2.ord (el99 ax) (sr99 ax))) trivial fun h hh=>?_;generalize hS3:TS.set _ _ _=S3;have en3:S3.n=S2.n:=by rw [<- hS3];rfl
        have eb3:S3.box S1.n=.cells true 2 [.int .i64 s.port,.int .i64 s.tag]:=by rw [<- hS3,gy _ _ (by have:=hB2.two;omega)];exact eb2
        have em3:S3.box 0=.map (entT b 0 a):=by rw [<- hS3,gy _ _ (by omega)];exact hB2.map
        have eo3:S3.box 1=.cells false (a.length*2+2) (vecC zd2 (a.map (·.1))++[.int .i64 s.port,.int .i64 s.tag]):=by rw [<- hS3,iu]
        have ex3:∀ c,c≠1->S3.box c=S2.box c:=fun c hc=>by rw [<- hS3,gy _ _ hc]
        clear hS3 eb2 hlook
        have hent:zin Tryz.prog (EE ax) S3 98 (.agg [.int .i64 s.port,.int .i64 s.tag]) (.mp 0)=some (.tup [.nils,.int .i64 (.ofNat (entT b 0 a).length)],S3.set 0 (.map (entT b 0 a++[(zd2 s,.nils)]))):=by
          rw [z0a ax em3,zm8,hf];rfl
        have hst:∀ (x:T) (y:Box),zfx ((S3.set 0 (.map (entT b 0 a++[(.agg [.int .i64 s.port,.int .i64 s.tag],.nils)]))).add y) (.int .i64 (.ofNat (entT b 0 a).length)) x (.mp 0)=some (((S3.set 0 (.map (entT b 0 a++[(.agg [.int .i64 s.port,.int .i64 s.tag],.nils)]))).add y).set 0 (.map (entT b 0 a++[(zd2 s,x)]))):=fun x y=>by
          simp only [zfx];rw [o9 _ _ (show 0≠(S3.set 0 (.map (entT b 0 a++[(.agg [.int .i64 s.port,.int .i64 s.tag],.nils)]))).n by show 0≠S3.n;omega),iu];simp only;rw [gm (ei _)];simp [zd2]
        refine rkS [0,3,4,14,15,16] [] [] (f3 hh eb3 (f3 hent hst (f3 (el37 ax) (sr37 ax) en3))) trivial fun h hh=>?_;rw [hnext,zAc rfl,zz5 hf];have hlen:(a++[(s,[(i:Int)])]).length=a.length+1:=by simp
        refine ⟨trivial,fun j=>if j=a.length then S2.n else b j,⟨?_,?_,fun j p hj=>?_,fun j j' hj hj' hjj=>?_,fun j hj=>?_,?_⟩,?_⟩
        . rw [iu,z5p,f6,zAc rfl];congr 1;rw [z0c (b':=fun j=>if j=a.length then S2.n else b j) a 0 fun k _ hk=>(zAd (by omega)).symm];rfl
        . rw [gy _ _ (by omega),TSas (show 1≠S3.n by have:=hB2.two;omega) (by omega),eo3,hlen,List.map_append,zb3,show (a.length+1)*2=a.length*2+2 by omega];rfl
        . rcases ko j a.length with q|q
          . rw [List.getElem?_append_left q] at hj;have hj2:=hB2.at_ j q;simp only [zAd (Nat.ne_of_lt q)];rw [gy _ _ (by omega),TSas (show b j≠S3.n by omega) (by omega),ex3 _ (by omega)];exact hB2.val j p hj
          . have hj0:j=a.length:=by
              have:=(et.1 hj).1;rw [hlen] at this;omega
            subst hj0;simp at hj;subst hj;rw [zAc rfl,gy _ _ (by have:=hB2.two;omega),<- en3];exact qj _ _
        . rw [hlen] at hj hj';split at hjj<;>split at hjj
          . omega
          . have:=(hB2.at_ j' (by omega)).2;omega
          . have:=(hB2.at_ j (by omega)).2;omega
          . exact hB2.inj j j' (by omega) (by omega) hjj
        . rw [hlen] at hj;show 2<=(if j=a.length then S2.n else b j)/\(if j=a.length then S2.n else b j)<S3.n+1;split
          . have:=hB2.two;omega
          . have:=hB2.at_ j (by omega);omega
        . show 2<=S3.n+1;omega
        . rw [hlen,show (a.length+1)*2=a.length*2+2 by omega];exact hh
      |some p =>
        obtain ⟨j,l⟩:=p;obtain ⟨_,hj,hadd⟩:=zz4 hf;rw [Nat.sub_zero] at hj hadd
        have hlook:zij Tryz.prog (EE ax) S2 98 (.mp 0) (.agg [.int .i64 s.port,.int .i64 s.tag]) false=some (.arr (b j) 1 0 l.length l.length l.length):=by
          rw [zv5 ax hB2.map,zm8,hf];rfl
        have hval:=hB2.val j _ hj;simp only at hval;have hl0:0<l.length:=List.length_pos_iff.2 (by rw [<- ha] at hj;exact yjf _ _ _ (fun p hp=>by simp at hp) _ (ij hj));repeat apply d6
        refine rkS [0,3,4,5,7,14,15,16,30] [] [] (f3 hh eb2 (f3 (zv6 ax S2) hlook (ysj ax (n:=l.length) hval hl0))) trivial fun h hh=>?_;have hjl:j<a.length:=(et.1 hj).1;have hbj:=hB2.at_ j hjl;have hll:l.length<1000000:=hlp _ (ij hj)
        have hent:zin Tryz.prog (EE ax) S2 98 (.agg [.int .i64 s.port,.int .i64 s.tag]) (.mp 0)=some (.tup [.arr (b j) 1 0 l.length l.length l.length,.int .i64 (.ofNat j)],S2.set 0 (.map ((entT b 0 a).set j (zd2 s,.arr (b j) 1 0 l.length l.length l.length)))):=by
          rw [z0a ax hB2.map,zm8,hf];rfl
        have hst:∀ (x:T) (y:Box),zfx ((S2.set 0 (.map ((entT b 0 a).set j (.agg [.int .i64 s.port,.int .i64 s.tag],.arr (b j) 1 0 l.length l.length l.length)))).set (b j) y) (.int .i64 (.ofNat j)) x (.mp 0)=some (((S2.set 0 (.map ((entT b 0 a).set j (.agg [.int .i64 s.port,.int .i64 s.tag],.arr (b j) 1 0 l.length l.length l.length)))).set (b j) y).set 0 (.map ((entT b 0 a).set j (zd2 s,x)))):=fun x y=>by
          simp only [zfx];rw [gy _ _ (show 0≠b j by omega),iu];simp only;rw [List.getElem?_set_self (by rw [ybj];exact hjl)];simp [zd2]
        refine cf hh ?_;refine sk ?_;refine rkS [0,3,4,14,15,16] [] [] (f3 hh eb2 (f3 hent hst (f3 (el37 ax) (sr37 ax) hval))) trivial fun h hh=>?_;rw [hnext,zAc rfl,hadd];have hlen:(a.set j (s,l++[(i:Int)])).length=a.length:=by simp
        refine ⟨trivial,b,⟨?_,?_,fun j' p hj'=>?_,fun j j' hj hj'=>hB2.inj j j' (by rw [hlen] at hj;exact hj) (by rw [hlen] at hj';exact hj'),fun j hj=>hB2.at_ j (by rw [hlen] at hj;exact hj),hB2.two⟩,?_⟩
        . rw [iu,ybi _ _ _ _ _ _ hjl,f6];simp [zd2]
        . rw [gy _ _ (by omega),gy _ _ (by omega),gy _ _ (by omega),hB2.ord,hlen];congr 2;rw [List.map_set];apply nv;intro q;rw [qk];split
          . rename_i hq;subst hq;rw [ek,zAc hjl,List.getElem?_map,hj];rfl
          . rfl
        . rw [qk] at hj';split at hj'
          . rename_i hq;subst hq;first|rw [zAc hjl] at hj' | skip
            simp only [dy] at hj';subst hj';rw [gy _ _ (by omega),iu];simp
          . rename_i hq;have hj2:j'<a.length:=(et.1 hj').1;have hb2:=hB2.at_ j' hj2;rw [gy _ _ (by omega),gy _ _ (fun hh=>hq (hB2.inj _ _ hj2 hjl hh).symm),gy _ _ (by omega)];exact hB2.val j' p hj'
        . rw [hlen];exact hh
  . clear hh h hb0;rintro e h S ⟨rfl,b,hB,hh⟩;generalize ha:coll t 0 []=a at hB hh H;have hnd:(a.map (·.1)).Nodup:=by rw [<- ha];exact z0k _ _ _ List.nodup_nil
    have hal:a.length<1000000:=by
      have:=z2n t 0 [];rw [ha] at this;simp at this;omega
    simp only [onT];refine nf 4 (L:=(a.map (·.1)).map zd2) hh.2.2 hB.ord (by decide) (by omega) ?_ ?_ (by simp) (ei _) ?_
    . rw [fl];exact zim (fun _=>rfl) (by simp)
    . intro t ht;simp only [ip] at ht;obtain ⟨i,_,rfl⟩:=ht;rfl
    refine yid (a:=a) (b:=b) (x:=.gone) a.length 0 _ (by omega) ?_ ?_ hB.inj (fun j hj=>(hB.at_ j hj).1) ?_ ?_
    . rw [gy _ _ (by omega),hB.map];rfl
    . intro j p _ hj;have:=hB.at_ j (et.1 hj).1;rw [gy _ _ (by omega)];exact hB.val j p hj
    . rw [iu]
    intro S' en em eo;have en2:2<=S'.n:=by rw [en];exact hB.two
    have hh2:(tupd h 4 (.lst 2 ((a.map (·.1)).map zd2))) 0=zas t/\(tupd h 4 (.lst 2 ((a.map (·.1)).map zd2))) 3=.mp 0/\(tupd h 4 (.lst 2 ((a.map (·.1)).map zd2))) 4=.lst 2 ((a.map (·.1)).map zd2):=⟨hh.1,hh.2.1,rfl⟩;generalize tupd h 4 (.lst 2 ((a.map (·.1)).map zd2))=h' at hh2;clear hh h hB en;apply d6;refine rkS [0,3,4,9] [] [] hh2 trivial ?_;clear hh2 h';intro h hh;repeat apply d6
    refine TW.vec 9 3 hh.2.2.2 ?_;have hh2:(tupd h 9 (.arr S'.n 3 0 0 0 0)) 0=zas t/\(tupd h 9 (.arr S'.n 3 0 0 0 0)) 3=.mp 0/\(tupd h 9 (.arr S'.n 3 0 0 0 0)) 4=.lst 2 ((a.map (·.1)).map zd2)/\(tupd h 9 (.arr S'.n 3 0 0 0 0)) 9=.arr S'.n 3 0 0 0 (0*3):=⟨hh.1,hh.2.1,hh.2.2.1,rfl⟩;generalize tupd h 9 (.arr S'.n 3 0 0 0 0)=h' at hh2;clear hh h;generalize hbo:S'.n=bo at hh2 en2;generalize hS:S'.add (.cells false 0 [])=S;have eb:S.box bo=.cells false (([]:List ze2).length*3) (vecC zgm []):=by rw [<- hS,<- hbo,qj];rfl
    have em2:S.box 0=.map (entZ a):=by rw [<- hS,o9 _ _ (by omega)];exact em
    have en3:bo<S.n:=by rw [<- hS];show bo<S'.n+1;omega
    clear hS em eo hbo;refine rkS [0,3,9,44,45,46] [] [] (f2 hh2 (ti99 ax)) trivial ?_;clear hh2 h';intro h hh;refine TW.mono (Q:=fun e h' S'=>e=.normal/\S'.box bo=.cells false (v.length*3) (vecC zgm v)/\h' 9=.arr bo 3 0 v.length v.length (v.length*3)) ?_ ?_;rotate_left
    . rintro e h2 S2 ⟨rfl,eb2,hh2⟩;simp only [onT];apply d6;refine nf 9 (L:=v.map zgm) hh2 eb2 (by decide) (by omega) ?_ ?_ (by simp) (ei _) ?_
      . rw [fl];exact zim (fun _=>rfl) rfl
      . intro t ht;simp only [ip] at ht;obtain ⟨i,_,rfl⟩:=ht;rfl
      have hh3:(tupd h2 9 (.lst 3 (v.map zgm))) 9=ztc v:=rfl;generalize tupd h2 9 (.lst 3 (v.map zgm))=h3 at hh3;refine rkS [2] [] [] hh3 trivial ?_;intro h4 hh4;exact rt hh4
    apply fo;refine TW.loop (fun m h S=>∃ (i:Nat) (w rest:List ze2),m+i=a.length/\ygj k t (a.drop i)=some rest/\w++rest=v/\w.length<=i/\S.box 0=.map (entZ a)/\S.box bo=.cells false (w.length*3) (vecC zgm w)/\bo<S.n/\h 0=zas t/\h 3=.mp 0/\h 9=.arr bo 3 0 w.length w.length (w.length*3)/\h 44=.lst 2 ((a.map (·.1)).map zd2)/\h 45=.int .i64 (a.length:Int)/\h 46=.int .i64 (i:Int)) ?_ a.length _ _ ?_;rotate_left
    . exact ⟨0,[],v,by omega,H,rfl,ei _,em2,eb,en3,hh⟩
    clear hh h eb em2 en3 H S;rintro m h S ⟨i,w,rest,hmi,H,hv,hwi,em,eb,en,hh⟩;apply d6;refine rkS [0,3,9,44,45,46,47] [] [] hh trivial fun h hh=>?_;by_cases c:(i:Int)<a.length
    rotate_left
    . apply d6;refine cf (f2 hh (zAb c)) ?_;refine TW.exit ?_;rw [gu (by omega)] at H;cases H;rw [fp] at hv;subst hv;exact ⟨rfl,eb,hh.2.2.1⟩
    have hi:i<a.length:=by omega
    apply d6;refine ct (f2 hh (zAa c)) ?_;refine sk ?_;apply d6;obtain ⟨⟨s,l⟩,hp⟩:∃ p,a[i]=p:=⟨_,rfl⟩;have hak:a[i]?=some (s,l):=by rw [ef hi,hp]
    rw [i8 hi,hp,ygj] at H;obtain ⟨mx,hmx,H⟩:=zad H;obtain ⟨q,hq,H⟩:=zad H;cases H;refine TW.mono (Q:=fun e h' S'=>e=.normal/\∃ w':List ze2,w'++q=v/\w'.length<=i+1/\S'.box 0=.map (entZ a)/\S'.box bo=.cells false (w'.length*3) (vecC zgm w')/\bo<S'.n/\h' 0=zas t/\h' 3=.mp 0/\h' 9=.arr bo 3 0 w'.length w'.length (w'.length*3)/\h' 44=.lst 2 ((a.map (·.1)).map zd2)/\h' 45=.int .i64 (a.length:Int)/\h' 46=.int .i64 (i:Int)) ?_ ?_;rotate_left
    . rintro e h2 S2 ⟨rfl,w',hv',hw',em',eb',en',hh2⟩;refine rkS [0,3,9,44,45,46] [] [] hh2 trivial ?_;clear hh2 h2;intro h2 hh2;refine ⟨m - 1,by omega,i+1,w',q,by omega,hq,hv',hw',em',eb',en',?_⟩;have:d9.wrap ((i:Int)+1)=((i+1:Nat):Int):=by rw [wr64 (by omega)];omega
      rw [this] at hh2;exact hh2
    apply fo;apply d6;refine rkS [0,3,9,11,44,45,46] [] [] (f3 hh hak (f2 (ti99 ax) (z6x ax))) trivial fun h hh=>?_;generalize hS1:TS.set _ _ _=S1;have en1:S1.n=S.n+1:=by rw [<- hS1];rfl
    have ep1:S1.box S.n=.cells true 2 [.int .i64 s.port,.int .i64 s.tag]:=by rw [<- hS1,iu]
    have ex1:∀ c,c<S.n->S1.box c=S.box c:=fun c hc=>by rw [<- hS1,gy _ _ (by omega),o9 _ _ (by omega)]
    clear hS1;refine TW.freezeP 11 hh.2.2.2.1 ep1 ?_;generalize hS2:S1.set S.n .gone=S2;have em2:S2.box 0=.map (entZ a):=by rw [<- hS2,gy _ _ (by omega),ex1 _ (by omega)];exact em
    have eb2:S2.box bo=.cells false (w.length*3) (vecC zgm w):=by rw [<- hS2,gy _ _ (by omega),ex1 _ (by omega)];exact eb
    have eo2:bo<S2.n:=by rw [<- hS2];show bo<S1.n;omega
    clear hS2 ex1 ep1;have hh2:(tupd h 11 (.cp [.int .i64 s.port,.int .i64 s.tag])) 0=zas t/\(tupd h 11 (.cp [.int .i64 s.port,.int .i64 s.tag])) 3=.mp 0/\(tupd h 11 (.cp [.int .i64 s.port,.int .i64 s.tag])) 9=.arr bo 3 0 w.length w.length (w.length*3)/\(tupd h 11 (.cp [.int .i64 s.port,.int .i64 s.tag])) 11=.cp [.int .i64 s.port,.int .i64 s.tag]/\(tupd h 11 (.cp [.int .i64 s.port,.int .i64 s.tag])) 44=.lst 2 ((a.map (·.1)).map zd2)/\(tupd h 11 (.cp [.int .i64 s.port,.int .i64 s.tag])) 45=.int .i64 (a.length:Int)/\(tupd h 11 (.cp [.int .i64 s.port,.int .i64 s.tag])) 46=.int .i64 (i:Int):=⟨hh.1,hh.2.1,hh.2.2.1,rfl,hh.2.2.2.2⟩;generalize tupd h 11 (.cp [.int .i64 s.port,.int .i64 s.tag])=h' at hh2;clear hh h;apply d6;refine rkS [0,3,9,11,12,44,45,46] [] [(.bool mx,S2)] hh2 ?_ ?_
    . exact ⟨ff ((zje ax hx k t (fun x=>zft k x s) mx hmx 54 [.cp [.int .i64 s.port,.int .i64 s.tag]] rfl (fun y w hw=>zsa ax hx k y s w hw)).call _),trivial⟩
    clear hh2 h';intro h hh;apply d6;refine rkS [0,3,9,11,44,45,46,54] [] [] hh trivial fun h hh=>?_
    cases mx with
    |true =>
      refine cf hh ?_;refine sk ?_;exact ⟨by first|rfl|trivial,w,hv,by omega,em2,eb2,eo2,hh.1,hh.2.1,hh.2.2.1,hh.2.2.2.2.1,hh.2.2.2.2.2.1,hh.2.2.2.2.2.2.1⟩
    |false =>
      refine ct hh ?_
      have hlook:zij Tryz.prog (EE ax) S2 98 (.mp 0) (.agg [.int .i64 s.port,.int .i64 s.tag]) false=some (ints l):=by
        rw [zv5 ax em2,zyn,ya9 hnd hak];rfl
      refine rdS 10 [0,3,9,44,45,46] [] [] [] (f3 hh em2 (f3 eb2 (f3 (zv6 ax S2) hlook (ti78 ax)) (f3 (f3 (el45 ax) (sr45 ax) (bt78 ax)) (f2 (z8f ax) (yij ax)) (f3 (yf9 ax) (yf8 ax) (ysc ax))))) trivial trivial ?_;intro h2 hh2;have hl1:(w++[(⟨s.port,s.tag,l⟩:ze2)]).length=w.length+1:=by simp
      refine ⟨trivial,w++[⟨s.port,s.tag,l⟩],?_,?_,?_,?_,?_,?_⟩
      . rw [ey];exact hv
      . rw [hl1];omega
      . rw [gy _ _ (by omega)];exact em2
      . rw [iu,hl1,zb3,show (w.length+1)*3=w.length*3+3 by omega];rfl
      . exact eo2
      . rw [hl1,show (w.length+1)*3=w.length*3+3 by omega];exact hh2
end Go.Proofs.YteifcnjpjjaikaaGreat
