/- Part 8 of the proof of TableExchangesRules (several texts in one; no further condition). -/
import Derived.Test.YtjgbkegkcbcjaaaGreatZE
import Derived.Test.YtjgbkegkcbcjaaaGreatZG
import Derived.Test.YtjgbkegkcbcjaaaGreatRows
import Derived.Test.YtjgbkegkcbcjaaaGreatZF
import Derived.Test.YtjgbkegkcbcjaaaGreatZD
import Derived.KernelRfl
set_option linter.unusedSimpArgs false
set_option linter.unusedVariables false
set_option linter.unusedSectionVars false
namespace Go.Proofs.YtjgbkegkcbcjaaaGreat
section
open Go Go.RowKit
noncomputable def axS:Axs:=z1v 12 (zz5 (.bool true)) fun _=>none
theorem ykj:zjz Tryz.prog GG LL axS:=(zjz.none z3m).add (yki (L:=LL) (ax:=fun _=>none) zm6 (fn12 fun _=>none) rfl rfl z5h)
theorem yim:axS 12=some (zz5 (.bool true)):=z6i _ _ _
theorem yba:zcs axS:=by
  refine ⟨fun f hf=>ydr _ _ fun h=>?_,rfl,rfl,fun A β s vargs hT hv=>?_⟩
  · subst h;rw [Nat.beq_refl] at hf;cases hf
  · cases hv;exact ⟨.bool true,s,A,β,ydk (k:=zz5 (.bool true)) yim rfl,hT,.bool true,Stp.refl⟩
theorem z9f {f:FuncId} {fn:Func} {body:Code} (hfn:(EE axS).fn.at f=some fn) (hb:fn.body=some body) {args:List T} {vs:Array Value} {W:World} (h:RtL W args vs.toList) (hp:Pure Tryz.prog (EE axS) [] f args (.bool true)) :
    Calls Tryz.prog f vs W fun e W'=>e=.returned (.bool true)∧Below W.heap.size W W':=by
  obtain ⟨A,xs,k⟩:=entL (N:=W.heap.size) (G:=GG) (K:=[]) rfl (fun p hp=>by simp at hp) (fun g hg=>by simp [has,GG] at hg) h [];have e:([]:List Seg)++A++[]=A:=by simp
  have kr:=k.vr [];have kl:=k.vl [];have ka:=k.at_ [];rw [e] at kr kl ka;obtain ⟨r1,r2,r3,r4⟩:=z7f (G:=GG) (N:=W.heap.size) (K:=[]) (A:=A) rfl (fun p hp=>by simp at hp) (fun p hp=>by simp at hp) (fun g hg=>by simp [has,GG] at hg) ka
  have hT:TRel [] (Low W.heap.size) bx0 ts0 (St (W.heap.size+A.length) (famS W.heap.size [] A) 0 [] []) :=
    ⟨⟨_,rfl⟩,r2,fun f hf=>by have:f<W.heap.size:=hf;show f<W.heap.size+A.length;omega,fun f hf=>absurd hf zhw,fun b b' l l' f hb=>by simp [bx0] at hb,fun b _=>rfl,fun b z N l hb=>by simp [ts0] at hb,fun b l hb=>by simp [ts0] at hb,fun x hx=>by simp at hx⟩
  obtain ⟨v,s2,A',β',e1,e2,e3,e4⟩:=hp.2.2 _ _ _ xs hT kl;cases e3;refine (ydh z03 zm6 ykj hfn hb (args':=vs) e1 kr r1 r4 r2 r3).mono ?_;rintro e w' ⟨σ',v',rfl,k1,k2⟩;exact ⟨by rw [zv7 3 rfl k1],k2⟩
end
section
open Go Go.RowKit
abbrev big:Nat:=9223372036854775808
theorem zce (i:Nat) (h:i<9223372036854775807):IntKind.i64.wrap ((i:Int)+1)=((i+1:Nat):Int):=by
  rw [wr64 (by omega)];push_cast;rfl
theorem zo0 {α:Type} [Inhabited α] (l:List α) (i:Nat):gx l (i:Int)=l.getD i default:=rfl
theorem zf4 {α:Type} [Inhabited α] {l:List α} {i:Nat} (h:i<l.length):gx l (i:Int)=l[i]:=by
  rw [zo0,List.getD_eq_getElem?_getD,List.getElem?_eq_getElem h];rfl
section
variable {α β σ:Type}
def sumO (o:Option β):β ⊕ Unit:=match o with|some b=>.inl b|none=>.inr ()
theorem zn0 {L : Nat → Int → Option (β ⊕ Unit)} (n : Nat) (c : Nat → Option β) (hn : n < big) (hs : ∀ m (j : Nat), j < n → L (m + 1) (j : Int) = match c j with | some b => some (.inl b) | none => L m (IntKind.i64.wrap ((j : Int) + 1)))
    (he:∀ m,L (m+1) (n:Int)=some (.inr ())) {k:Nat} (hk:n<k):L k 0=some (sumO ((List.range n).findSome? c)):=by
  have key:∀ m j,j≤n→n - j<m→L m (j:Int)=some (sumO ((List.range' j (n - j)).findSome? c)):=by
    intro m
    induction m with
    |zero=>intro j h1 h2;omega
    |succ m ih =>
      intro j h1 h2;by_cases hj:j<n
      · rw [hs m j hj,show n - j=(n - (j+1))+1 by omega,List.range'_succ,List.findSome?_cons]
        cases hc:c j with
        |some b=>rfl
        |none =>
          simp only;rw [zce j (by simp only [big] at hn;omega)];exact ih (j+1) (by omega) (by omega)
      · obtain rfl:j=n:=by omega
        rw [he,Nat.sub_self];rfl
  have:=key k 0 (Nat.zero_le _) (by omega);rw [List.range_eq_range'];exact this
theorem zo1 {c:Nat→Option β} {d:α→Option β}:∀ (l:List α) (s:Nat),(∀ j (h:j<l.length),c (s+j)=d l[j])→(List.range' s l.length).findSome? c=l.findSome? d
  |[],s,_=>rfl
  |x :: l,s,h=>by
    rw [List.length_cons,List.range'_succ,List.findSome?_cons,List.findSome?_cons];have h0:=h 0 (by simp);rw [Nat.add_zero] at h0;rw [h0];simp only [List.getElem_cons_zero];rw [zo1 l (s+1) fun j hj=>by have:=h (j+1) (by simpa using hj);rw [show s+(j+1)=s+1+j by omega] at this;simpa using this]
theorem z9a {L : Nat → Int → Option (β ⊕ Unit)} (l : List α) (c : α → Option β) (hn : l.length < big) (hs : ∀ m (j : Nat) (h : j < l.length), L (m + 1) (j : Int) = match c l[j] with | some b => some (.inl b) | none => L m (IntKind.i64.wrap ((j : Int) + 1)))
    (he:∀ m,L (m+1) (l.length:Int)=some (.inr ())) {k:Nat} (hk:l.length<k):L k 0=some (sumO (l.findSome? c)):=by
  rw [zn0 l.length (fun j=>if h:j<l.length then c l[j] else none) hn (fun m j h=>by rw [hs m j h,dif_pos h]) he hk,List.range_eq_range'];rw [zo1 l 0 fun j h=>by rw [Nat.zero_add,dif_pos h]]
theorem zkt {c:α→Option β} {b:β} {q:α→Bool}:∀ (l:List α),(∀ x,x∈l→c x=if q x=true then none else some b)→l.findSome? c=if l.all q=true then none else some b
  |[],_=>rfl
  |x :: l,h=>by
    rw [List.findSome?_cons,h x (.head _),List.all_cons]
    cases hq:q x with
    |true=>simp only [if_true,Bool.true_and];exact zkt l fun y hy=>h y (.tail _ hy)
    |false=>rfl
theorem zmz {L:Nat→Int→Option (β ⊕ Unit)} (l:List α) (b:β) (q:α→Bool) (hn:l.length<big) (hs:∀ m (j:Nat) (h:j<l.length),L (m+1) (j:Int)=if q l[j]=true then L m (IntKind.i64.wrap ((j:Int)+1)) else some (.inl b))
    (he:∀ m,L (m+1) (l.length:Int)=some (.inr ())) {k:Nat} (hk:l.length<k):L k 0=some (if l.all q=true then .inr () else .inl b):=by
  rw [z9a l (fun x=>if q x=true then none else some b) hn (fun m j h=>by rw [hs m j h];cases q l[j]<;>rfl) he hk,zkt l fun _ _=>rfl];cases l.all q<;>rfl
theorem zkm {L:Nat→Int→Option (β ⊕ Unit)} (n:Nat) (b:β) (q:Nat→Bool) (hn:n<big) (hs:∀ m (j:Nat),j<n→L (m+1) (j:Int)=if q j=true then L m (IntKind.i64.wrap ((j:Int)+1)) else some (.inl b))
    (he:∀ m,L (m+1) (n:Int)=some (.inr ())) {k:Nat} (hk:n<k):L k 0=some (if (List.range n).all q=true then .inr () else .inl b):=by
  rw [zn0 n (fun x=>if q x=true then none else some b) hn (fun m j h=>by rw [hs m j h];cases q j<;>rfl) he hk,zkt _ fun _ _=>rfl];cases (List.range n).all q<;>rfl
theorem zsb {l:List α} {q:α→Bool}:l.all q=true↔∀ j (h:j<l.length),q l[j]=true:=by
  rw [List.all_eq_true];exact ⟨fun h j hj=>h _ (List.getElem_mem hj),fun h x hx=>by obtain ⟨j,hj,rfl⟩:=List.getElem_of_mem hx;exact h j hj⟩
def idxB (q:α→Bool) (l:List α):Int:=match l.findIdx? q with|some i=>(i:Int)|none=>-1
end
/-! words -/
theorem zwp {a b:Nat} (ha:a<9223372036854775808) (hb:b<9223372036854775808):iAnd .i64 (a:Int) (b:Int)=((a &&& b:Nat):Int):=by
  have h:a &&& b≤a:=Nat.and_le_left;show IntKind.i64.wrap ((BitVec.ofInt 64 (a:Int) &&& BitVec.ofInt 64 (b:Int)).toNat:Int)=_;rw [BitVec.toNat_and,BitVec.toNat_ofInt,BitVec.toNat_ofInt];rw [show ((a:Int) % ((2 ^ 64:Nat):Int)).toNat=a by omega,show ((b:Int) % ((2 ^ 64:Nat):Int)).toNat=b by omega];exact wr64 (by omega)
theorem ycx {a b:Nat} (ha:a<9223372036854775808) (hb:b<9223372036854775808):iXor .i64 (a:Int) (b:Int)=((a ^^^ b:Nat):Int):=by
  have h:a ^^^ b<2 ^ 63:=Nat.xor_lt_two_pow (by omega) (by omega);show IntKind.i64.wrap ((BitVec.ofInt 64 (a:Int) ^^^ BitVec.ofInt 64 (b:Int)).toNat:Int)=_;rw [BitVec.toNat_xor,BitVec.toNat_ofInt,BitVec.toNat_ofInt];rw [show ((a:Int) % ((2 ^ 64:Nat):Int)).toNat=a by omega,show ((b:Int) % ((2 ^ 64:Nat):Int)).toNat=b by omega];exact wr64 (by omega)
theorem z1d {a b:Nat} (ha:a<9223372036854775808) (hb:b<9223372036854775808):iOr .i64 (a:Int) (b:Int)=((a ||| b:Nat):Int):=by
  have h:a ||| b<2 ^ 63:=Nat.or_lt_two_pow (by omega) (by omega)
  show IntKind.i64.wrap ((BitVec.ofInt 64 (a:Int) ||| BitVec.ofInt 64 (b:Int)).toNat:Int)=_;rw [BitVec.toNat_or,BitVec.toNat_ofInt,BitVec.toNat_ofInt];rw [show ((a:Int) % ((2 ^ 64:Nat):Int)).toNat=a by omega,show ((b:Int) % ((2 ^ 64:Nat):Int)).toNat=b by omega];exact wr64 (by omega)
theorem z92 {a b:Nat} (ha:a<9223372036854775808) (hb:b<9223372036854775808):zkq .i64 (a:Int) (b:Int)=((a - (a &&& b):Nat):Int):=zu4 ha hb
end
section
open Go Go.RowKit
theorem own:ownKnob Tryz.prog.godebug=none:=by kernel_rfl
theorem z09:laidOutB Tryz.prog=true:=by kernel_rfl
def inI (x:Int):Prop:=-9223372036854775808≤x∧x≤9223372036854775807
theorem yd1 {x:Int} (h:(Lit.int .i64 x).wf=true):inI x:=by
  simp only [Lit.wf,decide_eq_true_eq,IntKind.wrap,IntKind.bits,IntKind.signed] at h;simp at h;have e1:IntKind.i64.min=-9223372036854775808:=by decide
  have e2:IntKind.i64.max=9223372036854775807:=by decide
  unfold inI;omega
theorem cf_i {t:T} (h:conf (.int .i64) t):∃ n,t=.int .i64 n∧inI n:=by
  obtain ⟨n,rfl,hw⟩:=h;exact ⟨n,rfl,yd1 hw⟩
theorem yid {t:T} (h:conf .bool t):∃ b,t=.bool b∧True:=by
  obtain ⟨b,rfl⟩:=h;exact ⟨b,rfl,trivial⟩
theorem ygi {t:T} (h:conf .str t):∃ s,t=.str s∧s.size<big:=by
  obtain ⟨s,rfl,hs⟩:=h;have hm:maxLen<big:=by decide
  exact ⟨s,rfl,by omega⟩
theorem ygj {n:Nat} {t:T} (h:conf (.arr .i64 n) t):∃ a:Ar n,t=.agg (a.l.map (T.int .i64))∧∀ y,y∈a.l→inI y:=by
  obtain ⟨a,rfl,hw⟩:=h;exact ⟨a,rfl,fun y hy=>yd1 (hw y hy)⟩
theorem zle {α:Type} {f:α→T} {sh:Sh} {p:α→Prop} (hf:∀ t,conf sh t→∃ x,t=f x∧p x) {t:T} (h:conf (.slice sh) t):∃ l:List α,t=.lst sh.sz (l.map f)∧(l.length<big∧∀ x,x∈l→p x):=by
  obtain ⟨l,rfl,hl,hall⟩:=h;have hm:maxLen<big:=by decide
  have key:∀ l:List T,(∀ x,x∈l→conf sh x)→∃ m:List α,l=m.map f∧∀ x,x∈m→p x:=by
    intro l
    induction l with
    |nil=>intro _;exact ⟨[],rfl,fun x hx=>by simp at hx⟩
    |cons t l ih =>
      intro hc;obtain ⟨x,rfl,hp⟩:=hf t (hc t (by simp));obtain ⟨m,rfl,hm⟩:=ih fun y hy=>hc y (by simp [hy]);refine ⟨x :: m,rfl,fun y hy=>?_⟩;rcases List.mem_cons.1 hy with rfl|hy
      · exact hp
      · exact hm y hy
  obtain ⟨m,rfl,hp⟩:=key l hall;rw [List.length_map] at hl;exact ⟨m,rfl,by omega,hp⟩
def zvt:Sh:=.struct [(.arr .i64 10),(.arr .i64 10)]
def yg0 (x:Pat):Prop:=(∀ y,y∈x.mask.l→inI y)∧(∀ y,y∈x.bits.l→inI y)
theorem ygk {t:T} (h:conf zvt t):∃ x:Pat,t=ePat x∧yg0 x:=by
  obtain ⟨cs,rfl,x0,r0,rfl,h0,x1,r1,rfl,h1,rfl⟩:=h;obtain ⟨a0,rfl,q0⟩:=ygj h0;obtain ⟨a1,rfl,q1⟩:=ygj h1;exact ⟨⟨a0,a1⟩,by first | (simp only [ePat,T.cells,Sh.sz,Sh.szL,zvt,List.append_nil,List.cons_append,List.nil_append,List.append_assoc,Nat.add_zero,Nat.reduceAdd];done) | (simp only [ePat,T.cells,Sh.sz,Sh.szL,zvt,List.append_nil,List.cons_append,List.nil_append,List.append_assoc,Nat.add_zero,Nat.reduceAdd];rfl),q0,q1⟩
def ztd:Sh:=.struct [.str,.bool,(.int .i64),(.int .i64)]
def yd2 (x:Node):Prop:=x.name.size<big∧True∧inI x.rules∧inI x.entries
theorem yif {t:T} (h:conf ztd t):∃ x:Node,t=znb x∧yd2 x:=by
  obtain ⟨cs,rfl,x0,r0,rfl,h0,x1,r1,rfl,h1,x2,r2,rfl,h2,x3,r3,rfl,h3,rfl⟩:=h;obtain ⟨a0,rfl,q0⟩:=ygi h0;obtain ⟨a1,rfl,q1⟩:=yid h1;obtain ⟨a2,rfl,q2⟩:=cf_i h2;obtain ⟨a3,rfl,q3⟩:=cf_i h3;exact ⟨⟨a0,a1,a2,a3⟩,by first | (simp only [znb,T.cells,Sh.sz,Sh.szL,ztd,List.append_nil,List.cons_append,List.nil_append,List.append_assoc,Nat.add_zero,Nat.reduceAdd];done) | (simp only [znb,T.cells,Sh.sz,Sh.szL,ztd,List.append_nil,List.cons_append,List.nil_append,List.append_assoc,Nat.add_zero,Nat.reduceAdd];rfl),q0,q1,q2,q3⟩
def zte:Sh:=.struct [(.int .i64),(.int .i64),(.int .i64)]
def yd3 (x:Link):Prop:=inI x.frm∧inI x.to∧inI x.cap
theorem yig {t:T} (h:conf zte t):∃ x:Link,t=znc x∧yd3 x:=by
  obtain ⟨cs,rfl,x0,r0,rfl,h0,x1,r1,rfl,h1,x2,r2,rfl,h2,rfl⟩:=h;obtain ⟨a0,rfl,q0⟩:=cf_i h0;obtain ⟨a1,rfl,q1⟩:=cf_i h1;obtain ⟨a2,rfl,q2⟩:=cf_i h2;exact ⟨⟨a0,a1,a2⟩,by first | (simp only [znc,T.cells,Sh.sz,Sh.szL,zte,List.append_nil,List.cons_append,List.nil_append,List.append_assoc,Nat.add_zero,Nat.reduceAdd];done) | (simp only [znc,T.cells,Sh.sz,Sh.szL,zte,List.append_nil,List.cons_append,List.nil_append,List.append_assoc,Nat.add_zero,Nat.reduceAdd];rfl),q0,q1,q2⟩
def ztf:Sh:=.struct [.str,(.int .i64)]
def yd4 (x:Edge):Prop:=x.name.size<big∧inI x.node
theorem yih {t:T} (h:conf ztf t):∃ x:Edge,t=znd x∧yd4 x:=by
  obtain ⟨cs,rfl,x0,r0,rfl,h0,x1,r1,rfl,h1,rfl⟩:=h;obtain ⟨a0,rfl,q0⟩:=ygi h0;obtain ⟨a1,rfl,q1⟩:=cf_i h1;exact ⟨⟨a0,a1⟩,by first | (simp only [znd,T.cells,Sh.sz,Sh.szL,ztf,List.append_nil,List.cons_append,List.nil_append,List.append_assoc,Nat.add_zero,Nat.reduceAdd];done) | (simp only [znd,T.cells,Sh.sz,Sh.szL,ztf,List.append_nil,List.cons_append,List.nil_append,List.append_assoc,Nat.add_zero,Nat.reduceAdd];rfl),q0,q1⟩
def yby:Sh:=.struct [(.slice ztd),(.slice zte),(.slice ztf)]
def yg1 (x:Net):Prop:=(x.nodes.length<big∧∀ y,y∈x.nodes→yd2 y)∧(x.links.length<big∧∀ y,y∈x.links→yd3 y)∧(x.edges.length<big∧∀ y,y∈x.edges→yd4 y)
theorem ykc {t:T} (h:conf yby t):∃ x:Net,t=eNet x∧yg1 x:=by
  obtain ⟨cs,rfl,x0,r0,rfl,h0,x1,r1,rfl,h1,x2,r2,rfl,h2,rfl⟩:=h;obtain ⟨a0,rfl,q0⟩:=zle (fun _ hh=>yif hh) h0;obtain ⟨a1,rfl,q1⟩:=zle (fun _ hh=>yig hh) h1;obtain ⟨a2,rfl,q2⟩:=zle (fun _ hh=>yih hh) h2;exact ⟨⟨a0,a1,a2⟩,by first | (simp only [eNet,za8,znb,za9,znc,zba,znd,T.cells,Sh.sz,Sh.szL,yby,ztd,zte,ztf,List.append_nil,List.cons_append,List.nil_append,List.append_assoc,Nat.add_zero,Nat.reduceAdd];done) | (simp only [eNet,za8,znb,za9,znc,zba,znd,T.cells,Sh.sz,Sh.szL,yby,ztd,zte,ztf,List.append_nil,List.cons_append,List.nil_append,List.append_assoc,Nat.add_zero,Nat.reduceAdd];rfl),q0,q1,q2⟩
def z5f:Sh:=.struct [(.int .i64),zvt]
def yiw (x:Alt):Prop:=inI x.link∧yg0 x.mod
theorem ykd {t:T} (h:conf z5f t):∃ x:Alt,t=eAlt x∧yiw x:=by
  obtain ⟨cs,rfl,x0,r0,rfl,h0,x1,r1,rfl,h1,rfl⟩:=h;obtain ⟨a0,rfl,q0⟩:=cf_i h0;obtain ⟨a1,rfl,q1⟩:=ygk h1;exact ⟨⟨a0,a1⟩,by first | (simp only [eAlt,ePat,T.cells,Sh.sz,Sh.szL,z5f,zvt,List.append_nil,List.cons_append,List.nil_append,List.append_assoc,Nat.add_zero,Nat.reduceAdd];done) | (simp only [eAlt,ePat,T.cells,Sh.sz,Sh.szL,z5f,zvt,List.append_nil,List.cons_append,List.nil_append,List.append_assoc,Nat.add_zero,Nat.reduceAdd];rfl),q0,q1⟩
def z2a:Sh:=.struct [(.int .i64),zvt,(.int .i64),(.slice (.slice z5f))]
def z11 (x:Rule):Prop:=inI x.prio∧yg0 x.mat∧inI x.step∧(x.outs.length<big∧∀ y,y∈x.outs→(y.length<big∧∀ y',y'∈y→yiw y'))
theorem yie {t:T} (h:conf z2a t):∃ x:Rule,t=zaz x∧z11 x:=by
  obtain ⟨cs,rfl,x0,r0,rfl,h0,x1,r1,rfl,h1,x2,r2,rfl,h2,x3,r3,rfl,h3,rfl⟩:=h;obtain ⟨a0,rfl,q0⟩:=cf_i h0;obtain ⟨a1,rfl,q1⟩:=ygk h1;obtain ⟨a2,rfl,q2⟩:=cf_i h2;obtain ⟨a3,rfl,q3⟩:=zle (fun _ hh=>zle (fun _ hh=>ykd hh) hh) h3;exact ⟨⟨a0,a1,a2,a3⟩,by first | (simp only [zaz,ePat,zbz,lAlt,eAlt,T.cells,Sh.sz,Sh.szL,z2a,zvt,z5f,List.append_nil,List.cons_append,List.nil_append,List.append_assoc,Nat.add_zero,Nat.reduceAdd];done) | (simp only [zaz,ePat,zbz,lAlt,eAlt,T.cells,Sh.sz,Sh.szL,z2a,zvt,z5f,List.append_nil,List.cons_append,List.nil_append,List.append_assoc,Nat.add_zero,Nat.reduceAdd];rfl),q0,q1,q2,q3⟩
end
section
open Go Go.RowKit
set_option maxRecDepth 100000
def zbi (k:Nat) (h_:Ar 10):Nat→Int→Option (Bool ⊕ Unit)
 |0,_=>none
 |m+1,i=>(if i<10 then (if (0:Int)≤i∧i<(10:Int) then (if (gx h_.l i)<0 then some (.inl false) else (if 65535<(gx h_.l i) then some (.inl false) else zbi k h_ m (IntKind.i64.wrap (i+1)))) else none) else some (.inr ()))
def zeb (k:Nat) (h_:Ar 10):Option Bool:=((zbi k h_ k 0:Option (Bool ⊕ Unit)).bind fun o=>Sum.elim (fun r=>some r) (fun s_=>some true) o)
set_option maxHeartbeats 8000000 in
theorem ziy (ax:Axs) (hx:zcs ax) (k:Nat) (h_:Ar 10) (v:Bool) (H:zeb k h_=some v):Pure Tryz.prog (EE ax) [] 22 [.agg (h_.l.map (T.int .i64))] (.bool v):=by
 rw [zeb] at H;refine en [.tmp 2] 18 [0] (hx.no _ (by decide)) (fn22 ax) ?_;intro h hh;repeat apply TW.seq
 refine rk [1] [] hh ?_;clear hh h;intro h hh;repeat apply TW.seq
 refine rk [1,3] [] hh ?_;clear hh h;intro h hh;obtain ⟨o,H1,H⟩:=zaf H;repeat apply TW.seq
 refine cu [] 1 (fun h bs=>∃ s_:Unit,o=.inr s_∧(True)∧bs=[.cells true 10 (h_.l.map (T.int .i64))]) ?_ ?_
 ·skip;repeat apply TW.seq
  apply TW.block;repeat apply TW.seq
  refine TW.loopT [1,3] (fun m h bs=>∃ (i:Int),zbi k h_ m i=some o∧(h 1=.ptr 0 0 10∧h 3=.int .i64 i)∧bs=[.cells true 10 (h_.l.map (T.int .i64))]) ?_ k _ _ ?_;rotate_left
  ·exact ⟨0,H1,kq hh,rfl⟩
  clear hh h H1;rintro m h bs ⟨i,H1,hh,rfl⟩;rcases m with _|m
  ·rw [zbi] at H1;cases H1
  rw [zbi] at H1;repeat apply TW.seq
  refine rk [1,3,5] [] hh ?_;clear hh h;intro h hh;rcases isp H1 with ⟨c1,H1⟩|⟨c1,H1⟩;rotate_left
  ·skip;repeat apply TW.seq
   refine cf (f2 hh (decide_eq_false c1)) ?_;refine xk ?_;cases H1;exact ce hh ⟨_,rfl,kq hh,rfl⟩
  repeat apply TW.seq
  refine ct (f2 hh (decide_eq_true c1)) ?_;repeat apply TW.seq
  refine sk ?_;repeat apply TW.seq
  apply TW.block;obtain ⟨g2,H1⟩:=isg H1;rcases isp H1 with ⟨c3,H1⟩|⟨c3,H1⟩;rotate_left
  ·skip;repeat apply TW.seq
   refine rk [1,3,17] [] (f3 hh (decide_eq_false c3) (arIx h_ g2)) ?_;clear hh h;intro h hh;rcases isp H1 with ⟨c4,H1⟩|⟨c4,H1⟩;rotate_left
   ·skip;repeat apply TW.seq
    refine cf (f2 hh (decide_eq_false c4)) ?_;repeat apply TW.seq
    refine sk ?_;repeat apply TW.seq
    refine rk [1,3] [] hh ?_;clear hh h;intro h hh;exact rd m hh ⟨(IntKind.i64.wrap (i+1)),H1,kq hh,rfl⟩
   repeat apply TW.seq
   refine ct (f2 hh (decide_eq_true c4)) ?_;repeat apply TW.seq
   refine rk [2] [] hh ?_;clear hh h;intro h hh;cases H1;obtain rfl:=sinl H;exact rt hh
  repeat apply TW.seq
  refine rk [1,3,17] [] (f3 hh (decide_eq_true c3) (arIx h_ g2)) ?_;clear hh h;intro h hh;repeat apply TW.seq
  refine ct hh ?_;repeat apply TW.seq
  refine rk [2] [] hh ?_;clear hh h;intro h hh;cases H1;obtain rfl:=sinl H;exact rt hh
 clear hh h;rintro h bs ⟨s_,rfl,hh,rfl⟩;replace H:=sinr H;repeat apply TW.seq
 refine rk [2] [] hh ?_;clear hh h;intro h hh;cases H;exact rt hh
def zcj (k:Nat) (b:Ar 10) (m_:Ar 10):Nat→Int→Option (Bool ⊕ Unit)
 |0,_=>none
 |m+1,i=>(if i<10 then (if (0:Int)≤i∧i<(10:Int) then (if (iAnd .i64 (gx b.l i) (gx m_.l i))≠(gx b.l i) then some (.inl false) else zcj k b m_ m (IntKind.i64.wrap (i+1))) else none) else some (.inr ()))
def zhr (k:Nat) (b:Ar 10) (m_:Ar 10):Option Bool:=((zcj k b m_ k 0:Option (Bool ⊕ Unit)).bind fun o=>Sum.elim (fun r=>some r) (fun s_=>some true) o)
set_option maxHeartbeats 8000000 in
theorem zsj (ax:Axs) (hx:zcs ax) (k:Nat) (b:Ar 10) (m_:Ar 10) (v:Bool) (H:zhr k b m_=some v):Pure Tryz.prog (EE ax) [] 136 [.agg (b.l.map (T.int .i64)),.agg (m_.l.map (T.int .i64))] (.bool v):=by
 rw [zhr] at H;refine en [.tmp 4] 21 [0,1] (hx.no _ (by decide)) (fn136 ax) ?_;intro h hh;repeat apply TW.seq
 refine rk [2,3] [] hh ?_;clear hh h;intro h hh;repeat apply TW.seq
 refine rk [2,3,5] [] hh ?_;clear hh h;intro h hh;obtain ⟨o,H1,H⟩:=zaf H;repeat apply TW.seq
 refine cu [] 2 (fun h bs=>∃ s_:Unit,o=.inr s_∧(True)∧bs=[.cells true 10 (b.l.map (T.int .i64)),.cells true 10 (m_.l.map (T.int .i64))]) ?_ ?_
 ·skip;repeat apply TW.seq
  apply TW.block;repeat apply TW.seq
  refine TW.loopT [2,3,5] (fun m h bs=>∃ (i:Int),zcj k b m_ m i=some o∧(h 2=.ptr 0 0 10∧h 3=.ptr 1 0 10∧h 5=.int .i64 i)∧bs=[.cells true 10 (b.l.map (T.int .i64)),.cells true 10 (m_.l.map (T.int .i64))]) ?_ k _ _ ?_;rotate_left
  ·exact ⟨0,H1,kq hh,rfl⟩
  clear hh h H1;rintro m h bs ⟨i,H1,hh,rfl⟩;rcases m with _|m
  ·rw [zcj] at H1;cases H1
  rw [zcj] at H1;repeat apply TW.seq
  refine rk [2,3,5,7] [] hh ?_;clear hh h;intro h hh;rcases isp H1 with ⟨c1,H1⟩|⟨c1,H1⟩;rotate_left
  ·skip;repeat apply TW.seq
   refine cf (f2 hh (decide_eq_false c1)) ?_;refine xk ?_;cases H1;exact ce hh ⟨_,rfl,kq hh,rfl⟩
  repeat apply TW.seq
  refine ct (f2 hh (decide_eq_true c1)) ?_;repeat apply TW.seq
  refine sk ?_;repeat apply TW.seq
  apply TW.block;obtain ⟨g2,H1⟩:=isg H1;repeat apply TW.seq
  refine dk 10 [2,3,5,20] [] [] [] (f3 hh (arIx b g2) (arIx m_ g2)) trivial trivial ?_;clear hh h;intro h hh;rcases isp H1 with ⟨c3,H1⟩|⟨c3,H1⟩;rotate_left
  ·skip;repeat apply TW.seq
   refine cf (f2 hh (decide_eq_false c3)) ?_;repeat apply TW.seq
   refine sk ?_;repeat apply TW.seq
   refine rk [2,3,5] [] hh ?_;clear hh h;intro h hh;exact rd m hh ⟨(IntKind.i64.wrap (i+1)),H1,kq hh,rfl⟩
  repeat apply TW.seq
  refine ct (f2 hh (decide_eq_true c3)) ?_;repeat apply TW.seq
  refine rk [4] [] hh ?_;clear hh h;intro h hh;cases H1;obtain rfl:=sinl H;exact rt hh
 clear hh h;rintro h bs ⟨s_,rfl,hh,rfl⟩;replace H:=sinr H;repeat apply TW.seq
 refine rk [4] [] hh ?_;clear hh h;intro h hh;cases H;exact rt hh
def zgh (k:Nat) (p:Pat):Option Bool:=((zeb k p.mask).bind fun rRightHead=>((zeb k p.bits).bind fun rRightHead2=>(if rRightHead=true then (if rRightHead2=true then ((zhr k p.bits p.mask).bind fun rwithin=>some rwithin) else some false) else some false)))
set_option maxHeartbeats 8000000 in
theorem zjh (ax:Axs) (hx:zcs ax) (k:Nat) (p:Pat) (v:Bool) (H:zgh k p=some v):Pure Tryz.prog (EE ax) [] 108 [ePat p] (.bool v):=by
 rw [zgh] at H;refine en [.tmp 2] 22 [0] (hx.no _ (by decide)) (fn108 ax) ?_;intro h hh;repeat apply TW.seq
 refine rk [1] [] hh ?_;clear hh h;intro h hh;obtain ⟨rRightHead,e1,H⟩:=zaf H;repeat apply TW.seq
 refine rkc [1,3] [] [(.bool rRightHead,stL [.cells true 20 (p.mask.l.map (T.int .i64)++(p.bits.l.map (T.int .i64)))])] hh ?_ ?_
 ·exact ⟨za4.call ((ziy ax hx k p.mask rRightHead e1 ).call _),trivial⟩
 clear hh h;intro h hh;obtain ⟨rRightHead2,e2,H⟩:=zaf H;repeat apply TW.seq
 refine rkc [1,3,4] [] [(.bool rRightHead2,stL [.cells true 20 (p.mask.l.map (T.int .i64)++(p.bits.l.map (T.int .i64)))])] hh ?_ ?_
 ·exact ⟨za4.call ((ziy ax hx k p.bits rRightHead2 e2 ).call _),trivial⟩
 clear hh h;intro h hh;rcases isb H with ⟨c3,H⟩|⟨c3,H⟩;rotate_left
 ·skip;repeat apply TW.seq
  refine rk [2] [] (f2 hh c3) ?_;clear hh h;intro h hh;cases H;exact rt hh
 rcases isb H with ⟨c4,H⟩|⟨c4,H⟩;rotate_left
 ·skip;repeat apply TW.seq
  refine rk [2] [] (f3 hh c3 c4) ?_;clear hh h;intro h hh;cases H;exact rt hh
 obtain ⟨rwithin,e5,H⟩:=zaf H;repeat apply TW.seq
 refine rkc [2] [] [(.bool rwithin,stL [.cells true 20 (p.mask.l.map (T.int .i64)++(p.bits.l.map (T.int .i64)))])] (f3 hh c3 c4) ?_ ?_
 ·exact ⟨za4.call (Pure.clr (zsj ax hx k p.bits p.mask rwithin e5 ) (by first|rfl|simp only [c3,c4])),trivial⟩
 clear hh h;intro h hh;cases H;exact rt hh
def zfw (k:Nat) (m_:Pat):Option Bool:=((zgh k (⟨m_.mask,m_.bits⟩:Pat)).bind fun rRight=>some rRight)
set_option maxHeartbeats 8000000 in
theorem zo9 (ax:Axs) (hx:zcs ax) (k:Nat) (m_:Pat) (v:Bool) (H:zfw k m_=some v):Pure Tryz.prog (EE ax) [] 109 [ePat m_] (.bool v):=by
 rw [zfw] at H;refine en [.tmp 2] 9 [0] (hx.no _ (by decide)) (fn109 ax) ?_;intro h hh;repeat apply TW.seq
 refine rk [1] [] hh ?_;clear hh h;intro h hh;obtain ⟨rRight,e1,H⟩:=zaf H;repeat apply TW.seq
 refine rkc [2] [] [(.bool rRight,stL [.cells true 20 (m_.mask.l.map (T.int .i64)++(m_.bits.l.map (T.int .i64)))])] hh ?_ ?_
 ·exact ⟨za4.call ((zjh ax hx k (⟨m_.mask,m_.bits⟩:Pat) rRight e1 ).call _),trivial⟩
 clear hh h;intro h hh;cases H;exact rt hh
end
section
open Go Go.RowKit
set_option maxRecDepth 100000
end
section
open Go Go.RowKit
set_option maxRecDepth 100000
def zch (k:Nat) (n:Net) (r:Rule) (k_:Int):Nat→Int→Option (Bool ⊕ Unit)
 |0,_=>none
 |m+1,i=>(if (0:Int)≤k_∧k_<(r.outs.length:Int) then (if i<((gx r.outs k_).length:Int) then (if (0:Int)≤i∧i<((gx r.outs k_).length:Int) then ((zfw k ((gx (gx r.outs k_) i).mod)).bind fun rRightMod=>(if ((gx (gx r.outs k_) i).link)<(-1) then some (.inl false) else (if (n.links.length:Int)≤((gx (gx r.outs k_) i).link) then some (.inl false) else (if rRightMod=true then zch k n r k_ m (IntKind.i64.wrap (i+1)) else some (.inl false))))) else none) else some (.inr ())) else none)
def zci (k:Nat) (n:Net) (r:Rule):Nat→Int→Option (Bool ⊕ Unit)
 |0,_=>none
 |m+1,k_=>(if k_<(r.outs.length:Int) then (((((if (0:Int)≤k_∧k_<(r.outs.length:Int) then (if ((gx r.outs k_).length:Int)<1 then some true else some (decide (8<((gx r.outs k_).length:Int)))) else none):Option Bool).bind fun s_4=>(if s_4=true then some (.inl false) else ((zch k n r k_ k 0:Option (Bool ⊕ Unit)).bind fun o=>Sum.elim (fun r=>some (.inl r)) (fun s_5=>some (.inr ())) o))):Option (Bool ⊕ Unit)).bind fun o2=>Sum.elim (fun r=>some (.inl r)) (fun s_3=>zci k n r m (IntKind.i64.wrap (k_+1))) o2) else some (.inr ()))
def zhq (k:Nat) (n:Net) (steps:Int) (r:Rule):Option Bool:=((zgh k r.mat).bind fun rRight=>(((if r.prio<1 then some true else (if 65535<r.prio then some true else (if rRight=true then (if r.step<(-1) then some true else (if steps≤r.step then some true else some (decide (16<(r.outs.length:Int))))) else some true))):Option Bool).bind fun s_=>(if s_=true then some false else ((zci k n r k 0:Option (Bool ⊕ Unit)).bind fun o3=>Sum.elim (fun r=>some r) (fun s_2=>some true) o3))))
set_option maxHeartbeats 8000000 in
theorem zsi (ax:Axs) (hx:zcs ax) (k:Nat) (n:Net) (steps:Int) (r:Rule) (v:Bool) (H:zhq k n steps r=some v):Pure Tryz.prog (EE ax) [] 52 [eNet n,.int .i64 steps,zaz r] (.bool v):=by
 rw [zhq] at H;refine en [.tmp 6] 103 [0,1,2] (hx.no _ (by decide)) (fn52 ax) ?_;intro h hh;repeat apply TW.seq
 refine rk [1,3,5] [] hh ?_;clear hh h;intro h hh;obtain ⟨rRight,e1,H⟩:=zaf H;repeat apply TW.seq
 refine rkc [1,3,5,7] [] [(.bool rRight,stL [.cells true 3 [za8 n.nodes,za9 n.links,zba n.edges],.cells true 23 (T.int .i64 r.prio :: (r.mat.mask.l.map (T.int .i64)++(r.mat.bits.l.map (T.int .i64)++[T.int .i64 r.step,zbz r.outs])))])] hh ?_ ?_
 ·exact ⟨za4.call ((zjh ax hx k r.mat rRight e1 ).call _),trivial⟩
 clear hh h;intro h hh;obtain ⟨s_,H1,H⟩:=zaf H;repeat apply TW.seq
 refine cu [3,5,43] 2 (fun h bs=>(h 3=.ptr 0 0 3∧h 5=.ptr 1 0 23∧h 43=.bool s_)∧bs=[.cells true 3 [za8 n.nodes,za9 n.links,zba n.edges],.cells true 23 (T.int .i64 r.prio :: (r.mat.mask.l.map (T.int .i64)++(r.mat.bits.l.map (T.int .i64)++[T.int .i64 r.step,zbz r.outs])))]) ?_ ?_
 ·skip;rcases isp H1 with ⟨c2,H1⟩|⟨c2,H1⟩;rotate_left
  ·skip;rcases isp H1 with ⟨c3,H1⟩|⟨c3,H1⟩;rotate_left
   ·skip;rcases isb H1 with ⟨c4,H1⟩|⟨c4,H1⟩;rotate_left
    ·skip;repeat apply TW.seq
     refine rk [3,5,43] [] (f3 hh (decide_eq_false c2) (f2 (decide_eq_false c3) c4)) ?_;clear hh h;intro h hh;cases H1;exact ce hh ⟨kq hh,rfl⟩
    rcases isp H1 with ⟨c5,H1⟩|⟨c5,H1⟩;rotate_left
    ·skip;rcases isp H1 with ⟨c6,H1⟩|⟨c6,H1⟩;rotate_left
     ·skip;repeat apply TW.seq
      refine rk [3,5,43] [] (f3 hh (decide_eq_false c2) (f3 (decide_eq_false c3) c4 (f2 (decide_eq_false c5) (decide_eq_false c6)))) ?_;clear hh h;intro h hh;cases H1;exact ce hh ⟨kq hh,rfl⟩
     repeat apply TW.seq
     refine rk [3,5,43] [] (f3 hh (decide_eq_false c2) (f3 (decide_eq_false c3) c4 (f2 (decide_eq_false c5) (decide_eq_true c6)))) ?_;clear hh h;intro h hh;cases H1;exact ce hh ⟨kq hh,rfl⟩
    repeat apply TW.seq
    refine rk [3,5,43] [] (f3 hh (decide_eq_false c2) (f3 (decide_eq_false c3) c4 (decide_eq_true c5))) ?_;clear hh h;intro h hh;cases H1;exact ce hh ⟨kq hh,rfl⟩
   repeat apply TW.seq
   refine rk [3,5,43] [] (f3 hh (decide_eq_false c2) (decide_eq_true c3)) ?_;clear hh h;intro h hh;cases H1;exact ce hh ⟨kq hh,rfl⟩
  repeat apply TW.seq
  refine rk [3,5,43] [] (f2 hh (decide_eq_true c2)) ?_;clear hh h;intro h hh;cases H1;exact ce hh ⟨kq hh,rfl⟩
 clear hh h;rintro h bs ⟨hh,rfl⟩;rcases isb H with ⟨c7,H⟩|⟨c7,H⟩;rotate_left
 ·skip;repeat apply TW.seq
  refine cf (f2 hh c7) ?_;repeat apply TW.seq
  refine sk ?_;repeat apply TW.seq
  refine rk [3,5,8] [] (f2 hh c7) ?_;clear hh h;intro h hh;obtain ⟨o3,H1,H⟩:=zaf H;repeat apply TW.seq
  refine cu [] 2 (fun h bs=>∃ s_2:Unit,o3=.inr s_2∧(True)∧bs=[.cells true 3 [za8 n.nodes,za9 n.links,zba n.edges],.cells true 23 (T.int .i64 r.prio :: (r.mat.mask.l.map (T.int .i64)++(r.mat.bits.l.map (T.int .i64)++[T.int .i64 r.step,zbz r.outs])))]) ?_ ?_
  ·skip;repeat apply TW.seq
   apply TW.block;repeat apply TW.seq
   refine TW.loopT [3,5,8] (fun m h bs=>∃ (k_:Int),zci k n r m k_=some o3∧(h 3=.ptr 0 0 3∧h 5=.ptr 1 0 23∧h 8=.int .i64 k_)∧bs=[.cells true 3 [za8 n.nodes,za9 n.links,zba n.edges],.cells true 23 (T.int .i64 r.prio :: (r.mat.mask.l.map (T.int .i64)++(r.mat.bits.l.map (T.int .i64)++[T.int .i64 r.step,zbz r.outs])))]) ?_ k _ _ ?_;rotate_left
   ·exact ⟨0,H1,kq hh,rfl⟩
   clear hh h H1;rintro m h bs ⟨k_,H1,hh,rfl⟩;rcases m with _|m
   ·rw [zci] at H1;cases H1
   rw [zci] at H1;repeat apply TW.seq
   refine rk [3,5,8,48] [] (f2 hh c7) ?_;clear hh h;intro h hh;rcases isp H1 with ⟨c8,H1⟩|⟨c8,H1⟩;rotate_left
   ·skip;repeat apply TW.seq
    refine cf (f2 hh (decide_eq_false c8)) ?_;refine xk ?_;cases H1;exact ce hh ⟨_,rfl,kq hh,rfl⟩
   repeat apply TW.seq
   refine ct (f2 hh (decide_eq_true c8)) ?_;repeat apply TW.seq
   refine sk ?_;obtain ⟨o2,H2,H1⟩:=zaf H1;repeat apply TW.seq
   refine cu [3,5,8] 2 (fun h bs=>∃ s_3:Unit,o2=.inr s_3∧(h 3=.ptr 0 0 3∧h 5=.ptr 1 0 23∧h 8=.int .i64 k_)∧bs=[.cells true 3 [za8 n.nodes,za9 n.links,zba n.edges],.cells true 23 (T.int .i64 r.prio :: (r.mat.mask.l.map (T.int .i64)++(r.mat.bits.l.map (T.int .i64)++[T.int .i64 r.step,zbz r.outs])))]) ?_ ?_
   ·skip;repeat apply TW.seq
    apply TW.block;obtain ⟨s_4,H3,H2⟩:=zaf H2;repeat apply TW.seq
    refine cu [3,5,8,66] 2 (fun h bs=>(h 3=.ptr 0 0 3∧h 5=.ptr 1 0 23∧h 8=.int .i64 k_∧h 66=.bool s_4)∧bs=[.cells true 3 [za8 n.nodes,za9 n.links,zba n.edges],.cells true 23 (T.int .i64 r.prio :: (r.mat.mask.l.map (T.int .i64)++(r.mat.bits.l.map (T.int .i64)++[T.int .i64 r.step,zbz r.outs])))]) ?_ ?_
    ·skip;obtain ⟨g9,H3⟩:=isg H3;rcases isp H3 with ⟨c10,H3⟩|⟨c10,H3⟩;rotate_left
     ·skip;repeat apply TW.seq
      refine rk [3,5,8,66] [] (f3 hh (decide_eq_false c10) (f2 c7 (zar g9))) ?_;clear hh h;intro h hh;cases H3;exact ce hh ⟨kq hh,rfl⟩
     repeat apply TW.seq
     refine rk [3,5,8,66] [] (f3 hh (decide_eq_true c10) (f2 c7 (zar g9))) ?_;clear hh h;intro h hh;cases H3;exact ce hh ⟨kq hh,rfl⟩
    clear hh h;rintro h bs ⟨hh,rfl⟩;rcases isb H2 with ⟨c11,H2⟩|⟨c11,H2⟩;rotate_left
    ·skip;repeat apply TW.seq
     refine cf (f2 hh c11) ?_;repeat apply TW.seq
     refine sk ?_;repeat apply TW.seq
     refine rk [3,5,8,9] [] (f3 hh c7 c11) ?_;clear hh h;intro h hh;obtain ⟨o,H3,H2⟩:=zaf H2;repeat apply TW.seq
     refine cu [3,5,8] 2 (fun h bs=>∃ s_5:Unit,o=.inr s_5∧(h 3=.ptr 0 0 3∧h 5=.ptr 1 0 23∧h 8=.int .i64 k_)∧bs=[.cells true 3 [za8 n.nodes,za9 n.links,zba n.edges],.cells true 23 (T.int .i64 r.prio :: (r.mat.mask.l.map (T.int .i64)++(r.mat.bits.l.map (T.int .i64)++[T.int .i64 r.step,zbz r.outs])))]) ?_ ?_
     ·skip;repeat apply TW.seq
      apply TW.block;repeat apply TW.seq
      refine TW.loopT [3,5,8,9] (fun m h bs=>∃ (i:Int),zch k n r k_ m i=some o∧(h 3=.ptr 0 0 3∧h 5=.ptr 1 0 23∧h 8=.int .i64 k_∧h 9=.int .i64 i)∧bs=[.cells true 3 [za8 n.nodes,za9 n.links,zba n.edges],.cells true 23 (T.int .i64 r.prio :: (r.mat.mask.l.map (T.int .i64)++(r.mat.bits.l.map (T.int .i64)++[T.int .i64 r.step,zbz r.outs])))]) ?_ k _ _ ?_;rotate_left
      ·exact ⟨0,H3,kq hh,rfl⟩
      clear hh h H3;rintro m h bs ⟨i,H3,hh,rfl⟩;rcases m with _|m
      ·rw [zch] at H3;cases H3
      rw [zch] at H3;obtain ⟨g12,H3⟩:=isg H3;repeat apply TW.seq
      refine rk [3,5,8,9,74] [] (f3 hh c7 (f2 c11 (zar g12))) ?_;clear hh h;intro h hh;rcases isp H3 with ⟨c13,H3⟩|⟨c13,H3⟩;rotate_left
      ·skip;repeat apply TW.seq
       refine cf (f2 hh (decide_eq_false c13)) ?_;refine xk ?_;cases H3;exact ce hh ⟨_,rfl,kq hh,rfl⟩
      repeat apply TW.seq
      refine ct (f2 hh (decide_eq_true c13)) ?_;repeat apply TW.seq
      refine sk ?_;repeat apply TW.seq
      apply TW.block;obtain ⟨g14,H3⟩:=isg H3;repeat apply TW.seq
      refine rk [3,5,8,9,10] [] (f3 hh c7 (f3 c11 (zar g12) (zar g14))) ?_;clear hh h;intro h hh;obtain ⟨rRightMod,e15,H3⟩:=zaf H3;repeat apply TW.seq
      refine rkc [3,5,8,9,10,11] [] [(.bool rRightMod,stL [.cells true 3 [za8 n.nodes,za9 n.links,zba n.edges],.cells true 23 (T.int .i64 r.prio :: (r.mat.mask.l.map (T.int .i64)++(r.mat.bits.l.map (T.int .i64)++[T.int .i64 r.step,zbz r.outs]))),.cells true 21 (T.int .i64 ((gx (gx r.outs k_) i).link) :: ((((gx (gx r.outs k_) i).mod).mask).l.map (T.int .i64)++((((gx (gx r.outs k_) i).mod).bits).l.map (T.int .i64))))])] (f3 hh c7 c11) ?_ ?_
      ·exact ⟨za4.call (Pure.clr (zo9 ax hx k ((gx (gx r.outs k_) i).mod) rRightMod e15 ) (by first|rfl|simp only [c7,c11])),trivial⟩
      clear hh h;intro h hh;rcases isp H3 with ⟨c16,H3⟩|⟨c16,H3⟩;rotate_left
      ·skip;rcases isp H3 with ⟨c17,H3⟩|⟨c17,H3⟩;rotate_left
       ·skip;repeat apply TW.seq
        refine rk [3,5,8,9,102] [] (f3 hh (decide_eq_false c16) (f3 (decide_eq_false c17) c7 c11)) ?_;clear hh h;intro h hh;rcases isb H3 with ⟨c18,H3⟩|⟨c18,H3⟩;rotate_left
        ·skip;repeat apply TW.seq
         refine ct (f2 hh c18) ?_;repeat apply TW.seq
         refine rk [6] [] (f3 hh c7 (f2 c11 c18)) ?_;clear hh h;intro h hh;cases H3;obtain rfl:=sinm H2;obtain rfl:=sinm H1;obtain rfl:=sinl H;exact rt hh
        repeat apply TW.seq
        refine cf (f2 hh c18) ?_;repeat apply TW.seq
        refine sk ?_;repeat apply TW.seq
        refine rk [3,5,8,9] [] (f3 hh c7 (f2 c11 c18)) ?_;clear hh h;intro h hh;exact rd m hh ⟨(IntKind.i64.wrap (i+1)),H3,kq hh,rfl⟩
       repeat apply TW.seq
       refine rk [3,5,8,9,102] [] (f3 hh (decide_eq_false c16) (f3 (decide_eq_true c17) c7 c11)) ?_;clear hh h;intro h hh;repeat apply TW.seq
       refine ct hh ?_;repeat apply TW.seq
       refine rk [6] [] (f3 hh c7 c11) ?_;clear hh h;intro h hh;cases H3;obtain rfl:=sinm H2;obtain rfl:=sinm H1;obtain rfl:=sinl H;exact rt hh
      repeat apply TW.seq
      refine rk [3,5,8,9,102] [] (f3 hh (decide_eq_true c16) (f2 c7 c11)) ?_;clear hh h;intro h hh;repeat apply TW.seq
      refine ct hh ?_;repeat apply TW.seq
      refine rk [6] [] (f3 hh c7 c11) ?_;clear hh h;intro h hh;cases H3;obtain rfl:=sinm H2;obtain rfl:=sinm H1;obtain rfl:=sinl H;exact rt hh
     clear hh h;rintro h bs ⟨s_5,rfl,hh,rfl⟩;replace H2:=sinr H2;cases H2;exact ce hh ⟨_,rfl,kq hh,rfl⟩
    repeat apply TW.seq
    refine ct (f2 hh c11) ?_;repeat apply TW.seq
    refine rk [6] [] (f3 hh c7 c11) ?_;clear hh h;intro h hh;cases H2;obtain rfl:=sinm H1;obtain rfl:=sinl H;exact rt hh
   clear hh h;rintro h bs ⟨s_3,rfl,hh,rfl⟩;replace H1:=sinr H1;repeat apply TW.seq
   refine rk [3,5,8] [] (f2 hh c7) ?_;clear hh h;intro h hh;exact rd m hh ⟨(IntKind.i64.wrap (k_+1)),H1,kq hh,rfl⟩
  clear hh h;rintro h bs ⟨s_2,rfl,hh,rfl⟩;replace H:=sinr H;repeat apply TW.seq
  refine rk [6] [] (f2 hh c7) ?_;clear hh h;intro h hh;cases H;exact rt hh
 repeat apply TW.seq
 refine ct (f2 hh c7) ?_;repeat apply TW.seq
 refine rk [6] [] (f2 hh c7) ?_;clear hh h;intro h hh;cases H;exact rt hh
def zb5 (k:Nat) (n:Net) (steps:Int) (t:List Rule):Nat→Int→Option ((Int×Int) ⊕ Unit)
 |0,_=>none
 |m+1,k_=>(if k_<(t.length:Int) then (if (0:Int)≤k_∧k_<(t.length:Int) then ((zhq k n steps (gx t k_)).bind fun rFormed=>(if rFormed=true then (if 0<k_ then (if (0:Int)≤(IntKind.i64.wrap (k_ - 1))∧(IntKind.i64.wrap (k_ - 1))<(t.length:Int) then (if ((gx t (IntKind.i64.wrap (k_ - 1))).prio)≤((gx t k_).prio) then some (.inl (k_,1)) else zb5 k n steps t m (IntKind.i64.wrap (k_+1))) else none) else zb5 k n steps t m (IntKind.i64.wrap (k_+1))) else some (.inl (k_,1)))) else none) else some (.inr ()))
def ziw (k:Nat) (n:Net) (steps:Int) (t:List Rule):Option (Int×Int):=(((if steps<0 then some true else some (decide (1000<steps))):Option Bool).bind fun s_=>(if s_=true then some (0,1) else (if 4000<(t.length:Int) then some (0,2) else ((zb5 k n steps t k 0:Option ((Int×Int) ⊕ Unit)).bind fun o=>Sum.elim (fun r=>some r) (fun s_2=>some (0,0)) o))))
set_option maxHeartbeats 8000000 in
theorem zvo (ax:Axs) (hx:zcs ax) (k:Nat) (n:Net) (steps:Int) (t:List Rule) (v:Int×Int) (H:ziw k n steps t=some v):Pure Tryz.prog (EE ax) [] 14 [eNet n,.int .i64 steps,zbd t] (tupT [.int .i64 v.1,.int .i64 v.2]):=by
 rw [ziw] at H;refine enN [.tmp 6,.tmp 7] 53 [0,1,2] (hx.no _ (by decide)) (fn14 ax) ?_;intro h hh;repeat apply TW.seq
 refine rk [1,2,3] [] hh ?_;clear hh h;intro h hh;obtain ⟨s_,H1,H⟩:=zaf H;repeat apply TW.seq
 refine cu [1,2,3,15] 1 (fun h bs=>(h 1=.int .i64 steps∧h 2=zbd t∧h 3=.ptr 0 0 3∧h 15=.bool s_)∧bs=[.cells true 3 [za8 n.nodes,za9 n.links,zba n.edges]]) ?_ ?_
 ·skip;rcases isp H1 with ⟨c1,H1⟩|⟨c1,H1⟩;rotate_left
  ·skip;repeat apply TW.seq
   refine rk [1,2,3,15] [] (f2 hh (decide_eq_false c1)) ?_;clear hh h;intro h hh;cases H1;exact ce hh ⟨kq hh,rfl⟩
  repeat apply TW.seq
  refine rk [1,2,3,15] [] (f2 hh (decide_eq_true c1)) ?_;clear hh h;intro h hh;cases H1;exact ce hh ⟨kq hh,rfl⟩
 clear hh h;rintro h bs ⟨hh,rfl⟩;rcases isb H with ⟨c2,H⟩|⟨c2,H⟩;rotate_left
 ·skip;repeat apply TW.seq
  refine cf (f2 hh c2) ?_;repeat apply TW.seq
  refine sk ?_;repeat apply TW.seq
  refine rk [1,2,3,18] [] (f2 hh c2) ?_;clear hh h;intro h hh;rcases isp H with ⟨c3,H⟩|⟨c3,H⟩;rotate_left
  ·skip;repeat apply TW.seq
   refine cf (f2 hh (decide_eq_false c3)) ?_;repeat apply TW.seq
   refine sk ?_;repeat apply TW.seq
   refine rk [1,2,3,8] [] (f2 hh c2) ?_;clear hh h;intro h hh;obtain ⟨o,H1,H⟩:=zaf H;repeat apply TW.seq
   refine cu [] 1 (fun h bs=>∃ s_2:Unit,o=.inr s_2∧(True)∧bs=[.cells true 3 [za8 n.nodes,za9 n.links,zba n.edges]]) ?_ ?_
   ·skip;repeat apply TW.seq
    apply TW.block;repeat apply TW.seq
    refine TW.loopT [1,2,3,8] (fun m h bs=>∃ (k_:Int),zb5 k n steps t m k_=some o∧(h 1=.int .i64 steps∧h 2=zbd t∧h 3=.ptr 0 0 3∧h 8=.int .i64 k_)∧bs=[.cells true 3 [za8 n.nodes,za9 n.links,zba n.edges]]) ?_ k _ _ ?_;rotate_left
    ·exact ⟨0,H1,kq hh,rfl⟩
    clear hh h H1;rintro m h bs ⟨k_,H1,hh,rfl⟩;rcases m with _|m
    ·rw [zb5] at H1;cases H1
    rw [zb5] at H1;repeat apply TW.seq
    refine rk [1,2,3,8,22] [] (f2 hh c2) ?_;clear hh h;intro h hh;rcases isp H1 with ⟨c4,H1⟩|⟨c4,H1⟩;rotate_left
    ·skip;repeat apply TW.seq
     refine cf (f2 hh (decide_eq_false c4)) ?_;refine xk ?_;cases H1;exact ce hh ⟨_,rfl,kq hh,rfl⟩
    repeat apply TW.seq
    refine ct (f2 hh (decide_eq_true c4)) ?_;repeat apply TW.seq
    refine sk ?_;repeat apply TW.seq
    apply TW.block;obtain ⟨g5,H1⟩:=isg H1;obtain ⟨rFormed,e6,H1⟩:=zaf H1;repeat apply TW.seq
    refine dk 6 [1,2,3,8,9] [] [] [(.bool rFormed,stL [.cells true 3 [za8 n.nodes,za9 n.links,zba n.edges]])] (f3 hh c2 (zar g5)) trivial ?_ ?_
    ·exact ⟨za4.call (Pure.clr (zsi ax hx k n steps (gx t k_) rFormed e6 ) (by first|rfl|simp only [c2])),trivial⟩
    clear hh h;intro h hh;rcases isb H1 with ⟨c7,H1⟩|⟨c7,H1⟩;rotate_left
    ·skip;repeat apply TW.seq
     refine dk 17 [1,2,3,8,51] [] [] [] (f3 hh c7 c2) trivial trivial ?_;clear hh h;intro h hh;repeat apply TW.seq
     refine ct hh ?_;repeat apply TW.seq
     refine rk [6,7] [] (f3 hh c2 c7) ?_;clear hh h;intro h hh;cases H1;obtain rfl:=sinl H;exact rt hh
    rcases isp H1 with ⟨c8,H1⟩|⟨c8,H1⟩;rotate_left
    ·skip;repeat apply TW.seq
     refine dk 17 [1,2,3,8,51] [] [] [] (f3 hh c7 (f2 (decide_eq_false c8) c2)) trivial trivial ?_;clear hh h;intro h hh;repeat apply TW.seq
     refine cf hh ?_;repeat apply TW.seq
     refine sk ?_;repeat apply TW.seq
     refine rk [1,2,3,8] [] (f3 hh c2 c7) ?_;clear hh h;intro h hh;exact rd m hh ⟨(IntKind.i64.wrap (k_+1)),H1,kq hh,rfl⟩
    obtain ⟨g9,H1⟩:=isg H1;repeat apply TW.seq
    refine dk 17 [1,2,3,8,51] [] [] [] (f3 hh c7 (f3 (decide_eq_true c8) c2 (f2 (zar g5) (zar g9)))) trivial trivial ?_;clear hh h;intro h hh;rcases isp H1 with ⟨c10,H1⟩|⟨c10,H1⟩;rotate_left
    ·skip;repeat apply TW.seq
     refine cf (f2 hh (decide_eq_false c10)) ?_;repeat apply TW.seq
     refine sk ?_;repeat apply TW.seq
     refine rk [1,2,3,8] [] (f3 hh c2 c7) ?_;clear hh h;intro h hh;exact rd m hh ⟨(IntKind.i64.wrap (k_+1)),H1,kq hh,rfl⟩
    repeat apply TW.seq
    refine ct (f2 hh (decide_eq_true c10)) ?_;repeat apply TW.seq
    refine rk [6,7] [] (f3 hh c2 c7) ?_;clear hh h;intro h hh;cases H1;obtain rfl:=sinl H;exact rt hh
   clear hh h;rintro h bs ⟨s_2,rfl,hh,rfl⟩;replace H:=sinr H;repeat apply TW.seq
   refine rk [6,7] [] (f2 hh c2) ?_;clear hh h;intro h hh;cases H;exact rt hh
  repeat apply TW.seq
  refine ct (f2 hh (decide_eq_true c3)) ?_;repeat apply TW.seq
  refine rk [6,7] [] (f2 hh c2) ?_;clear hh h;intro h hh;cases H;exact rt hh
 repeat apply TW.seq
 refine ct (f2 hh c2) ?_;repeat apply TW.seq
 refine rk [6,7] [] (f2 hh c2) ?_;clear hh h;intro h hh;cases H;exact rt hh
end
section
open Go Go.RowKit
set_option maxRecDepth 100000
def zaj (k:Nat) (s1:List (List Alt)) (s2:List (List Alt)) (eq:(List Alt)→(List Alt)→Option Bool):Nat→Int→Option (Bool ⊕ Unit)
 |0,_=>none
 |m+1,i=>(if i<(s1.length:Int) then (if (0:Int)≤i∧i<(s1.length:Int) then (if (0:Int)≤i∧i<(s2.length:Int) then ((eq (gx s1 i) (gx s2 i)).bind fun r=>(if r=true then zaj k s1 s2 eq m (IntKind.i64.wrap (i+1)) else some (.inl false))) else none) else none) else some (.inr ()))
def zbx (k:Nat) (s1:List (List Alt)) (s2:List (List Alt)) (eq:(List Alt)→(List Alt)→Option Bool):Option Bool:=(if (s1.length:Int)≠(s2.length:Int) then some false else ((zaj k s1 s2 eq k 0:Option (Bool ⊕ Unit)).bind fun o=>Sum.elim (fun r=>some r) (fun s_=>some true) o))
set_option maxHeartbeats 8000000 in
theorem zif (ax:Axs) (hx:zcs ax) (k:Nat) (s1:List (List Alt)) (s2:List (List Alt)) (eq:(List Alt)→(List Alt)→Option Bool) (v:Bool) (H:zbx k s1 s2 eq=some v) (eq_f:Nat) (eq_c:List T) (eq_i:T.idsL 0 eq_c=true) (eq_h:∀ (y0:List Alt) (y1:List Alt) (w:Bool),eq y0 y1=some w→Pure Tryz.prog (EE ax) [] eq_f ([]++[lAlt y0,lAlt y1]++eq_c) (.bool w)):Pure Tryz.prog (EE ax) [] 110 [zbz s1,zbz s2,.fn eq_f [] eq_c] (.bool v):=by
 rw [zbx] at H;refine en (ha:=by simp only [zbv,zcg,idsA,idsB,eq_i,Bool.and_self]) [.tmp 6] 32 [0,1,2] (hx.no _ (by decide)) (fn110 ax) ?_;intro h hh;repeat apply TW.seq
 refine rk [0,1,2] [] hh ?_;clear hh h;intro h hh;repeat apply TW.seq
 refine rk [0,1,2,14] [] hh ?_;clear hh h;intro h hh;rcases isp H with ⟨c1,H⟩|⟨c1,H⟩;rotate_left
 ·skip;repeat apply TW.seq
  refine cf (f2 hh (decide_eq_false c1)) ?_;repeat apply TW.seq
  refine sk ?_;repeat apply TW.seq
  refine rk [1,2,15,16,17] [] hh ?_;clear hh h;intro h hh;obtain ⟨o,H1,H⟩:=zaf H;repeat apply TW.seq
  refine cu [] 0 (fun h bs=>∃ s_:Unit,o=.inr s_∧(True)∧bs=[]) ?_ ?_
  ·skip;repeat apply TW.seq
   apply TW.block;repeat apply TW.seq
   refine TW.loopT [1,2,15,16,17] (fun m h bs=>∃ (i:Int),zaj k s1 s2 eq m i=some o∧(h 1=zbz s2∧h 2=.fn eq_f [] eq_c∧h 15=zbz s1∧h 16=.int .i64 (s1.length:Int)∧h 17=.int .i64 i)∧bs=[]) ?_ k _ _ ?_;rotate_left
   ·exact ⟨0,H1,kq hh,rfl⟩
   clear hh h H1;rintro m h bs ⟨i,H1,hh,rfl⟩;rcases m with _|m
   ·rw [zaj] at H1;cases H1
   rw [zaj] at H1;repeat apply TW.seq
   refine rk [1,2,15,16,17,18] [] hh ?_;clear hh h;intro h hh;rcases isp H1 with ⟨c2,H1⟩|⟨c2,H1⟩;rotate_left
   ·skip;repeat apply TW.seq
    refine cf (f2 hh (decide_eq_false c2)) ?_;refine xk ?_;cases H1;exact ce (f2 hh ((fun m=>zf3 (Nat.zero_le m) eq_i))) ⟨_,rfl,kq hh,rfl⟩
   repeat apply TW.seq
   refine ct (f2 hh (decide_eq_true c2)) ?_;repeat apply TW.seq
   refine sk ?_;repeat apply TW.seq
   apply TW.block;obtain ⟨g3,H1⟩:=isg H1;repeat apply TW.seq
   refine rk [1,2,7,8,15,16,17] [] (f2 hh (zar g3)) ?_;clear hh h;intro h hh;obtain ⟨g4,H1⟩:=isg H1;repeat apply TW.seq
   refine rk [1,2,8,9,15,16,17] [] (f2 hh (zar g4)) ?_;clear hh h;intro h hh;obtain ⟨r,e5,H1⟩:=zaf H1;repeat apply TW.seq
   refine rkc [1,2,15,16,17,30] [] [(.bool r,stL [])] hh ?_ ?_
   ·exact ⟨za4.call ((eq_h (gx s1 i) (gx s2 i) r e5).call _),trivial⟩
   clear hh h;intro h hh;rcases isb H1 with ⟨c6,H1⟩|⟨c6,H1⟩;rotate_left
   ·skip;repeat apply TW.seq
    refine ct (f2 hh c6) ?_;repeat apply TW.seq
    refine rk [6] [] (f2 hh c6) ?_;clear hh h;intro h hh;cases H1;obtain rfl:=sinl H;exact rt hh
   repeat apply TW.seq
   refine cf (f2 hh c6) ?_;repeat apply TW.seq
   refine sk ?_;repeat apply TW.seq
   refine rk [1,2,15,16,17] [] (f2 hh c6) ?_;clear hh h;intro h hh;exact rd m (f2 hh ((fun m=>zf3 (Nat.zero_le m) eq_i))) ⟨(IntKind.i64.wrap (i+1)),H1,kq hh,rfl⟩
  clear hh h;rintro h bs ⟨s_,rfl,hh,rfl⟩;replace H:=sinr H;repeat apply TW.seq
  refine rk [6] [] hh ?_;clear hh h;intro h hh;cases H;exact rt hh
 repeat apply TW.seq
 refine ct (f2 hh (decide_eq_true c1)) ?_;repeat apply TW.seq
 refine rk [6] [] hh ?_;clear hh h;intro h hh;cases H;exact rt hh
def zaw (k:Nat) (s1:List Alt) (s2:List Alt):Nat→Int→Option (Bool ⊕ Unit)
 |0,_=>none
 |m+1,i=>(if i<(s1.length:Int) then (if (0:Int)≤i∧i<(s1.length:Int) then (if (0:Int)≤i∧i<(s2.length:Int) then (if (gx s1 i)=(gx s2 i) then zaw k s1 s2 m (IntKind.i64.wrap (i+1)) else some (.inl false)) else none) else none) else some (.inr ()))
def zdg (k:Nat) (s1:List Alt) (s2:List Alt):Option Bool:=(if (s1.length:Int)≠(s2.length:Int) then some false else ((zaw k s1 s2 k 0:Option (Bool ⊕ Unit)).bind fun o=>Sum.elim (fun r=>some r) (fun s_=>some true) o))
set_option maxHeartbeats 8000000 in
theorem zli (ax:Axs) (hx:zcs ax) (k:Nat) (s1:List Alt) (s2:List Alt) (v:Bool) (H:zdg k s1 s2=some v):Pure Tryz.prog (EE ax) [] 112 [lAlt s1,lAlt s2] (.bool v):=by
 rw [zdg] at H;refine en [.tmp 4] 26 [0,1] (hx.no _ (by decide)) (fn112 ax) ?_;intro h hh;repeat apply TW.seq
 refine rk [0,1] [] hh ?_;clear hh h;intro h hh;repeat apply TW.seq
 refine rk [0,1,10] [] hh ?_;clear hh h;intro h hh;rcases isp H with ⟨c1,H⟩|⟨c1,H⟩;rotate_left
 ·skip;repeat apply TW.seq
  refine cf (f2 hh (decide_eq_false c1)) ?_;repeat apply TW.seq
  refine sk ?_;repeat apply TW.seq
  refine rk [0,1,12,13] [] hh ?_;clear hh h;intro h hh;obtain ⟨o,H1,H⟩:=zaf H;repeat apply TW.seq
  refine cu [] 0 (fun h bs=>∃ s_:Unit,o=.inr s_∧(True)∧bs=[]) ?_ ?_
  ·skip;repeat apply TW.seq
   apply TW.block;repeat apply TW.seq
   refine TW.loopT [0,1,12,13] (fun m h bs=>∃ (i:Int),zaw k s1 s2 m i=some o∧(h 0=lAlt s1∧h 1=lAlt s2∧h 12=.int .i64 (s1.length:Int)∧h 13=.int .i64 i)∧bs=[]) ?_ k _ _ ?_;rotate_left
   ·exact ⟨0,H1,kq hh,rfl⟩
   clear hh h H1;rintro m h bs ⟨i,H1,hh,rfl⟩;rcases m with _|m
   ·rw [zaw] at H1;cases H1
   rw [zaw] at H1;repeat apply TW.seq
   refine rk [0,1,12,13,14] [] hh ?_;clear hh h;intro h hh;rcases isp H1 with ⟨c2,H1⟩|⟨c2,H1⟩;rotate_left
   ·skip;repeat apply TW.seq
    refine cf (f2 hh (decide_eq_false c2)) ?_;refine xk ?_;cases H1;exact ce hh ⟨_,rfl,kq hh,rfl⟩
   repeat apply TW.seq
   refine ct (f2 hh (decide_eq_true c2)) ?_;repeat apply TW.seq
   refine sk ?_;repeat apply TW.seq
   apply TW.block;repeat apply TW.seq
   refine rk [0,1,5,12,13] [] hh ?_;clear hh h;intro h hh;obtain ⟨g3,H1⟩:=isg H1;obtain ⟨g4,H1⟩:=isg H1;repeat apply TW.seq
   refine dk 8 [0,1,12,13,24] [] [] [] (f3 hh (zar g3) (f2 (zar g4) ((aq94 ax (gx s1 i) (gx s2 i)).2))) trivial trivial ?_;clear hh h;intro h hh;rcases isp H1 with ⟨c5,H1⟩|⟨c5,H1⟩;rotate_left
   ·skip;repeat apply TW.seq
    refine ct (f2 hh (decide_eq_false c5)) ?_;repeat apply TW.seq
    refine rk [4] [] hh ?_;clear hh h;intro h hh;cases H1;obtain rfl:=sinl H;exact rt hh
   repeat apply TW.seq
   refine cf (f2 hh (decide_eq_true c5)) ?_;repeat apply TW.seq
   refine sk ?_;repeat apply TW.seq
   refine rk [0,1,12,13] [] hh ?_;clear hh h;intro h hh;exact rd m hh ⟨(IntKind.i64.wrap (i+1)),H1,kq hh,rfl⟩
  clear hh h;rintro h bs ⟨s_,rfl,hh,rfl⟩;replace H:=sinr H;repeat apply TW.seq
  refine rk [4] [] hh ?_;clear hh h;intro h hh;cases H;exact rt hh
 repeat apply TW.seq
 refine ct (f2 hh (decide_eq_true c1)) ?_;repeat apply TW.seq
 refine rk [4] [] hh ?_;clear hh h;intro h hh;cases H;exact rt hh
def zfd (k:Nat) (x:List Alt) (y:List Alt):Option Bool:=((zdg k x y).bind fun rAlt=>some rAlt)
set_option maxHeartbeats 8000000 in
theorem zit (ax:Axs) (hx:zcs ax) (k:Nat) (x:List Alt) (y:List Alt) (v:Bool) (H:zfd k x y=some v):Pure Tryz.prog (EE ax) [] 111 [lAlt x,lAlt y] (.bool v):=by
 rw [zfd] at H;refine en [.tmp 4] 8 [0,1] (hx.no _ (by decide)) (fn111 ax) ?_;intro h hh;repeat apply TW.seq
 refine rk [0,1] [] hh ?_;clear hh h;intro h hh;obtain ⟨rAlt,e1,H⟩:=zaf H;repeat apply TW.seq
 refine rkc [4] [] [(.bool rAlt,stL [])] hh ?_ ?_
 ·exact ⟨za4.call ((zli ax hx k x y rAlt e1 ).call _),trivial⟩
 clear hh h;intro h hh;cases H;exact rt hh
def zgt (k:Nat) (a:Rule) (b:Rule):Option Bool:=(if a.step=b.step then ((zbx k a.outs b.outs (fun y y2=>zfd k y y2)).bind fun rLAlt=>some rLAlt) else some false)
set_option maxHeartbeats 8000000 in
theorem zqc (ax:Axs) (hx:zcs ax) (k:Nat) (a:Rule) (b:Rule) (v:Bool) (H:zgt k a b=some v):Pure Tryz.prog (EE ax) [] 54 [zaz a,zaz b] (.bool v):=by
 rw [zgt] at H;refine en [.tmp 4] 17 [0,1] (hx.no _ (by decide)) (fn54 ax) ?_;intro h hh;repeat apply TW.seq
 refine rk [2,3] [] hh ?_;clear hh h;intro h hh;rcases isp H with ⟨c1,H⟩|⟨c1,H⟩;rotate_left
 ·skip;repeat apply TW.seq
  refine rk [4] [] (f2 hh (decide_eq_false c1)) ?_;clear hh h;intro h hh;cases H;exact rt hh
 obtain ⟨rLAlt,e2,H⟩:=zaf H;repeat apply TW.seq
 refine rkc [4] [] [(.bool rLAlt,stL [.cells true 23 (T.int .i64 a.prio :: (a.mat.mask.l.map (T.int .i64)++(a.mat.bits.l.map (T.int .i64)++[T.int .i64 a.step,zbz a.outs]))),.cells true 23 (T.int .i64 b.prio :: (b.mat.mask.l.map (T.int .i64)++(b.mat.bits.l.map (T.int .i64)++[T.int .i64 b.step,zbz b.outs])))])] (f2 hh (decide_eq_true c1)) ?_ ?_
 ·exact ⟨za4.call ((zif ax hx k a.outs b.outs (fun y y2=>zfd k y y2) rLAlt e2 111 [] (by simp only [zbv,zcg,idsA,idsB,Bool.and_self]) (fun y y2 w hw=>by first|exact zit ax hx k y y2 w hw|exact (zit ax hx k y y2 w hw))).call _),trivial⟩
 clear hh h;intro h hh;cases H;exact rt hh
end
section
open Go Go.RowKit
theorem gxA {n:Nat} (a:Ar n) {i:Nat} (h:i<n):gx a.l (i:Int)=a.l[i]'(by rw [a.h];exact h):=zf4 (by rw [a.h];exact h)
theorem yko {n:Nat} (a:Ar n) (q:Int→Bool):((List.range n).all fun j=>q (gx a.l (j:Int)))=a.l.all q:=by
  rw [Bool.eq_iff_iff,List.all_eq_true,zsb];constructor
  · intro h j hj;have:=h j (List.mem_range.2 (by rw [a.h] at hj;exact hj))
    rwa [zf4 hj] at this
  · intro h j hj;have hj':j<a.l.length:=by rw [a.h];exact List.mem_range.1 hj
    rw [zf4 hj'];exact h j hj'
theorem ygc {α:Type} [DecidableEq α] (a b:List α) (h:a.length=b.length):((List.range a.length).all fun j=>decide (a[j]?=b[j]?))=decide (a=b):=by
  rw [Bool.eq_iff_iff,List.all_eq_true,decide_eq_true_eq];constructor
  · intro hh;apply List.ext_getElem?;intro i;by_cases hi:i<a.length
    · have:=hh i (List.mem_range.2 hi);simpa using this
    · rw [List.getElem?_eq_none (by omega),List.getElem?_eq_none (by omega)]
  · rintro rfl j _;simp
theorem lt10 {a:Nat} (h:a<10):(a:Int)<10:=by omega
theorem zav {a b:Nat} (h:a<b):(a:Int)<(b:Int):=by omega
theorem zl9 {k:Nat} (a b:List (List Alt)) (f:(List Alt)→(List Alt)→Option Bool) (hf:∀ x,x∈a→∀ y,y∈b→f x y=some (decide (x=y))) (hl:a.length<big) (hk:a.length<k):zbx k a b f=some (decide (a=b)):=by
  unfold zbx;by_cases hlen:a.length=b.length
  · rw [if_neg (by omega),zkm (L:=zaj k a b f) a.length false (fun j=>decide (a[j]?=b[j]?)) hl (fun m j h=>by
      have h2:j<b.length:=by omega
      rw [zaj,if_pos (zav h),if_pos ⟨by omega,zav h⟩,if_pos ⟨by omega,zav h2⟩,zf4 h,zf4 h2];rw [hf _ (List.getElem_mem h) _ (List.getElem_mem h2),Option.bind_some,List.getElem?_eq_getElem h,List.getElem?_eq_getElem h2]
      simp only [Option.some.injEq]) (fun m=>by rw [zaj,if_neg (by omega)]) hk,ygc a b hlen,Option.bind_some]
    cases decide (a=b)<;>rfl
  · rw [if_pos (by omega)];congr 1;exact (decide_eq_false fun h=>hlen (by rw [h])).symm
theorem zsr {k:Nat} (a b:List Alt) (hl:a.length<big) (hk:a.length<k):zdg k a b=some (decide (a=b)):=by
  unfold zdg;by_cases hlen:a.length=b.length
  · rw [if_neg (by omega),zkm (L:=zaw k a b) a.length false (fun j=>decide (a[j]?=b[j]?)) hl (fun m j h=>by
      have h2:j<b.length:=by omega
      rw [zaw,if_pos (zav h),if_pos ⟨by omega,zav h⟩,if_pos ⟨by omega,zav h2⟩,zf4 h,zf4 h2,List.getElem?_eq_getElem h,List.getElem?_eq_getElem h2]
      simp only [Option.some.injEq,decide_eq_true_eq]) (fun m=>by rw [zaw,if_neg (by omega)]) hk,ygc a b hlen,Option.bind_some]
    cases decide (a=b)<;>rfl
  · rw [if_pos (by omega)];congr 1;exact (decide_eq_false fun h=>hlen (by rw [h])).symm
/-! patterns -/
def ztn (x:Int):Bool:=decide (0≤x∧x≤65535)
def zac (h:Ar 10):Bool:=h.l.all ztn
def zvb (p:Pat):Bool:=(List.range 10).all fun i=>decide (iAnd .i64 (gx p.bits.l (i:Int)) (gx p.mask.l (i:Int))=gx p.bits.l (i:Int))
def zag (p:Pat):Bool:=zac p.mask && (zac p.bits && zvb p)
theorem z5j {x:Int} (h:ztn x=true):∃ n:Nat,x=(n:Int)∧n<65536:=by
  have:=of_decide_eq_true h;exact ⟨x.toNat,by omega,by omega⟩
theorem zvy {h:Ar 10} (hr:zac h=true) {i:Nat} (hi:i<10):∃ n:Nat,gx h.l (i:Int)=(n:Int)∧n<65536:=by
  rw [gxA h hi];exact z5j (List.all_eq_true.1 hr _ (List.getElem_mem _))
theorem zmr {k:Nat} (h:Ar 10) (hk:10<k):zeb k h=some (zac h):=by
  unfold zeb
  rw [zkm (L:=zbi k h) 10 false (fun i=>ztn (gx h.l (i:Int))) (by decide) (fun m j hj=>by
    rw [zbi,if_pos (lt10 hj),if_pos ⟨by omega,lt10 hj⟩];unfold ztn;by_cases c1:gx h.l (j:Int)<0
    · rw [if_pos c1,if_neg (by rw [decide_eq_true_eq];omega)]
    · rw [if_neg c1];by_cases c2:65535<gx h.l (j:Int)
      · rw [if_pos c2,if_neg (by rw [decide_eq_true_eq];omega)]
      · rw [if_neg c2,if_pos (by rw [decide_eq_true_eq];omega)]) (fun m=>by rw [zbi];exact if_neg (by decide)) hk,Option.bind_some,yko]
  unfold zac;cases h.l.all ztn<;>rfl
theorem z5n {k:Nat} (p:Pat) (hk:10<k):zhr k p.bits p.mask=some (zvb p):=by
  unfold zhr zvb
  rw [zkm (L:=zcj k p.bits p.mask) 10 false (fun i=>decide (iAnd .i64 (gx p.bits.l (i:Int)) (gx p.mask.l (i:Int))=gx p.bits.l (i:Int))) (by decide) (fun m j hj=>by
    rw [zcj,if_pos (lt10 hj),if_pos ⟨by omega,lt10 hj⟩];by_cases c:iAnd .i64 (gx p.bits.l (j:Int)) (gx p.mask.l (j:Int))=gx p.bits.l (j:Int)
    · rw [if_neg (fun h=>h c),if_pos (decide_eq_true c)]
    · rw [if_pos c,if_neg (by rw [decide_eq_true_eq];exact c)]) (fun m=>by rw [zcj];exact if_neg (by decide)) hk,Option.bind_some]
  cases (List.range 10).all _<;>rfl
theorem zqy {k:Nat} (p:Pat) (hk:10<k):zgh k p=some (zag p):=by
  unfold zgh zag
  rw [zmr _ hk,zmr _ hk,Option.bind_some,Option.bind_some,z5n p hk];cases zac p.mask<;>cases zac p.bits<;>rfl
theorem zx0 {k:Nat} (p:Pat) (hk:10<k):zfw k p=some (zag p):=by
  unfold zfw;rw [zqy _ hk];rfl
/-! rules and tables -/
def zq4 (r:Rule):Prop:=r.outs.length<big∧∀ l,l∈r.outs→l.length<big
def z01 (t:List Rule):Prop:=t.length<big∧∀ r,r∈t→zq4 r
theorem z0e {k:Nat} (a b:Rule) (ha:zq4 a) (hk:big≤k):zgt k a b=some (decide (a.step=b.step∧a.outs=b.outs)):=by
  unfold zgt;rw [zl9 a.outs b.outs _ (fun x hx y hy=>by unfold zfd;rw [zsr x y (ha.2 x hx) (Nat.lt_of_lt_of_le (ha.2 x hx) hk)];rfl) ha.1 (Nat.lt_of_lt_of_le ha.1 hk)];by_cases c:a.step=b.step
  · rw [if_pos c];simp [c]
  · rw [if_neg c];simp [c]
def fAlt (n:Net) (a:Alt):Bool:=decide (-1≤a.link∧a.link<n.links.length) && zag a.mod
def fOut (n:Net) (l:List Alt):Bool:=decide (1≤l.length∧l.length≤8) && l.all (fAlt n)
def zul (n:Net) (steps:Int) (r:Rule):Bool:=decide (1≤r.prio∧r.prio≤65535) && (zag r.mat && (decide (-1≤r.step∧r.step<steps∧r.outs.length≤16) && r.outs.all (fOut n)))
theorem z5m {k:Nat} (n:Net) (steps:Int) (r:Rule) (hr:zq4 r) (hk:big≤k):zhq k n steps r=some (zul n steps r):=by
  have hk10:10<k:=Nat.lt_of_lt_of_le (by decide) hk;unfold zhq zul;rw [zqy _ hk10,Option.bind_some]
  have hloop:zci k n r k 0=some (if r.outs.all (fOut n)=true then .inr () else .inl false):=by
    refine zmz r.outs false (fOut n) hr.1 (fun m j h=>?_) (fun m=>by rw [zci,if_neg (by omega)]) (Nat.lt_of_lt_of_le hr.1 hk);have hx:=hr.2 _ (List.getElem_mem h);rw [zci,if_pos (zav h),if_pos ⟨by omega,zav h⟩,zf4 h];unfold fOut;by_cases c1:(r.outs[j].length:Int)<1
    · rw [if_pos c1,decide_eq_false (by omega)];rfl
    · rw [if_neg c1,Option.bind_some];by_cases c2:8<(r.outs[j].length:Int)
      · rw [decide_eq_true c2,decide_eq_false (by omega)];rfl
      · rw [decide_eq_false c2,decide_eq_true (by omega)];simp only [Bool.false_eq_true,if_false,Bool.true_and]
        rw [zmz (L:=zch k n r (j:Int)) r.outs[j] false (fAlt n) hx (fun m i hi=>by
          rw [zch,if_pos ⟨by omega,zav h⟩,zf4 h,if_pos (zav hi),if_pos ⟨by omega,zav hi⟩,zf4 hi,zx0 _ hk10,Option.bind_some];unfold fAlt;by_cases d1:r.outs[j][i].link < -1
          · rw [if_pos d1,decide_eq_false (by omega)];rfl
          · rw [if_neg d1];by_cases d2:(n.links.length:Int)≤r.outs[j][i].link
            · rw [if_pos d2,decide_eq_false (by omega)];rfl
            · rw [if_neg d2,decide_eq_true (by omega)];rfl) (fun m=>by rw [zch,if_pos ⟨by omega,zav h⟩,zf4 h,if_neg (by omega)]) (Nat.lt_of_lt_of_le hx hk),Option.bind_some]
        cases r.outs[j].all (fAlt n)<;>rfl
  rw [hloop];by_cases c1:r.prio<1
  · rw [if_pos c1,decide_eq_false (by omega)];rfl
  · rw [if_neg c1];by_cases c2:65535<r.prio
    · rw [if_pos c2,decide_eq_false (by omega)];rfl
    · rw [if_neg c2,decide_eq_true (show 1≤r.prio∧r.prio≤65535 by omega)]
      cases zag r.mat with
      |false=>rfl
      |true =>
        simp only [if_true,Bool.true_and];by_cases c3:r.step < -1
        · rw [if_pos c3,decide_eq_false (by omega)];rfl
        · rw [if_neg c3];by_cases c4:steps≤r.step
          · rw [if_pos c4,decide_eq_false (by omega)];rfl
          · rw [if_neg c4,Option.bind_some];by_cases c5:16<(r.outs.length:Int)
            · rw [decide_eq_true c5,decide_eq_false (by omega)];rfl
            · rw [decide_eq_false c5,decide_eq_true (by omega)];simp only [Bool.false_eq_true,if_false,Bool.true_and];cases r.outs.all (fOut n)<;>rfl
end
section
open Go Go.RowKit
set_option maxRecDepth 100000
def zmh (k:Nat) (n:Net) (nodes:Int) (links:Int) (edges:Int):Option Bool:=(if (n.nodes.length:Int)≤nodes then (if (n.links.length:Int)≤links then some (decide ((n.edges.length:Int)≤edges)) else some false) else some false)
set_option maxHeartbeats 8000000 in
theorem zqe (ax:Axs) (hx:zcs ax) (k:Nat) (n:Net) (nodes:Int) (links:Int) (edges:Int) (v:Bool) (H:zmh k n nodes links edges=some v):Pure Tryz.prog (EE ax) [] 9 [eNet n,.int .i64 nodes,.int .i64 links,.int .i64 edges] (.bool v):=by
 rw [zmh] at H;refine en [.tmp 8] 28 [0,1,2,3] (hx.no _ (by decide)) (fn9 ax) ?_;intro h hh;repeat apply TW.seq
 refine rk [1,2,3,4] [] hh ?_;clear hh h;intro h hh;rcases isp H with ⟨c1,H⟩|⟨c1,H⟩;rotate_left
 ·skip;repeat apply TW.seq
  refine rk [8] [] (f2 hh (decide_eq_false c1)) ?_;clear hh h;intro h hh;cases H;exact rt hh
 rcases isp H with ⟨c2,H⟩|⟨c2,H⟩;rotate_left
 ·skip;repeat apply TW.seq
  refine rk [8] [] (f3 hh (decide_eq_true c1) (decide_eq_false c2)) ?_;clear hh h;intro h hh;cases H;exact rt hh
 repeat apply TW.seq
 refine rk [8] [] (f3 hh (decide_eq_true c1) (decide_eq_true c2)) ?_;clear hh h;intro h hh;cases H;exact rt hh
def zdw (k:Nat) (n:Net):Nat→Int→(List ByteArray)→Nat→Option (List ByteArray×Nat)
 |0,_,_,_=>none
 |m+1,i,l,n2=>(if i<(n.nodes.length:Int) then (if (0:Int)≤i∧i<(n.nodes.length:Int) then (if (n2+1)*17≤1000000000 then zdw k n m (IntKind.i64.wrap (i+1)) (l++[(gx n.nodes i).name]) (n2+1) else none) else none) else some (l,n2))
def zdv (k:Nat) (n:Net):Nat→Int→(List ByteArray)→Nat→Option (List ByteArray×Nat)
 |0,_,_,_=>none
 |m+1,i2,l2,n3=>(if i2<(n.edges.length:Int) then (if (0:Int)≤i2∧i2<(n.edges.length:Int) then (if (n3+1)*17≤1000000000 then zdv k n m (IntKind.i64.wrap (i2+1)) (l2++[(gx n.edges i2).name]) (n3+1) else none) else none) else some (l2,n3))
def zix (k:Nat) (n:Net):Option (List ByteArray×List ByteArray):=((zdw k n k 0 [] 0:Option (List ByteArray×Nat)).bind fun s_=>((zdv k n k 0 [] 0:Option (List ByteArray×Nat)).bind fun s_2=>(if s_.1.length=s_.2 then (if s_2.1.length=s_2.2 then some (s_.1,s_2.1) else none) else none)))
set_option maxHeartbeats 8000000 in
theorem zvp (ax:Axs) (hx:zcs ax) (k:Nat) (n:Net) (v:List ByteArray×List ByteArray) (H:zix k n=some v):Pure Tryz.prog (EE ax) [] 45 [eNet n] (tupT [strs v.1,strs v.2]):=by
 rw [zix] at H;refine enN [.tmp 2,.tmp 3] 42 [0] (hx.no _ (by decide)) (fn45 ax) ?_;intro h hh;repeat apply TW.seq
 refine rk [1] [] hh ?_;clear hh h;intro h hh;repeat apply TW.seq
 refine rk [1,4] [] hh ?_;clear hh h;intro h hh;refine vk 4 1 [1,4] hh ?_;clear hh h;intro h hh;repeat apply TW.seq
 refine rk [1,4,5] [] hh ?_;clear hh h;intro h hh;refine vk 5 1 [1,4,5] hh ?_;clear hh h;intro h hh;repeat apply TW.seq
 refine rk [1,4,5,6] [] hh ?_;clear hh h;intro h hh;obtain ⟨s_,H1,H⟩:=zaf H;repeat apply TW.seq
 refine cu [1,4,5] 3 (fun h bs=>(h 1=.ptr 0 0 3∧h 4=.arr 1 1 0 s_.2 s_.2 s_.2∧h 5=.arr 2 1 0 0 0 0)∧bs=[.cells true 3 [za8 n.nodes,za9 n.links,zba n.edges],.cells false s_.2 (s_.1.map T.str),.cells false 0 ([].map T.str)]) ?_ ?_
 ·skip;repeat apply TW.seq
  apply TW.block;repeat apply TW.seq
  refine TW.loopT [1,4,5,6] (fun m h bs=>∃ (i:Int) (l:List ByteArray) (n2:Nat),zdw k n m i l n2=some s_∧(h 1=.ptr 0 0 3∧h 4=.arr 1 1 0 n2 n2 n2∧h 5=.arr 2 1 0 0 0 0∧h 6=.int .i64 i)∧bs=[.cells true 3 [za8 n.nodes,za9 n.links,zba n.edges],.cells false n2 (l.map T.str),.cells false 0 ([].map T.str)]) ?_ k _ _ ?_;rotate_left
  ·exact ⟨0,[],0,H1,kq hh,rfl⟩
  clear hh h H1;rintro m h bs ⟨i,l,n2,H1,hh,rfl⟩;rcases m with _|m
  ·rw [zdw] at H1;cases H1
  rw [zdw] at H1;repeat apply TW.seq
  refine rk [1,4,5,6,12] [] hh ?_;clear hh h;intro h hh;rcases isp H1 with ⟨c1,H1⟩|⟨c1,H1⟩;rotate_left
  ·skip;repeat apply TW.seq
   refine cf (f2 hh (decide_eq_false c1)) ?_;refine xk ?_;cases H1;exact ce hh ⟨kq hh,rfl⟩
  repeat apply TW.seq
  refine ct (f2 hh (decide_eq_true c1)) ?_;repeat apply TW.seq
  refine sk ?_;repeat apply TW.seq
  apply TW.block;obtain ⟨g2,H1⟩:=isg H1;obtain ⟨g3,H1⟩:=isg H1;repeat apply TW.seq
  refine rg [] [] [.cells true 3 [za8 n.nodes,za9 n.links,zba n.edges],.cells false (n2+1) ((l++[(gx n.nodes i).name]).map T.str),.cells false 0 ([].map T.str)] (fun h=>h 1=.ptr 0 0 3∧h 4=.arr 1 1 0 (n2+1) (n2+1) (n2+1)∧h 5=.arr 2 1 0 0 0 0∧h 6=.int .i64 i) (f2 hh (zar g2)) trivial ?_;clear hh h;intro h hh;repeat apply TW.seq
  refine rk [1,4,5,6] [] hh ?_;clear hh h;intro h hh;exact rd m hh ⟨(IntKind.i64.wrap (i+1)),(l++[(gx n.nodes i).name]),(n2+1),H1,kq hh,rfl⟩
 clear hh h;rintro h bs ⟨hh,rfl⟩;repeat apply TW.seq
 refine rk [1,4,5,7] [] hh ?_;clear hh h;intro h hh;obtain ⟨s_2,H1,H⟩:=zaf H;repeat apply TW.seq
 refine cu [4,5] 3 (fun h bs=>(h 4=.arr 1 1 0 s_.2 s_.2 s_.2∧h 5=.arr 2 1 0 s_2.2 s_2.2 s_2.2)∧bs=[.cells true 3 [za8 n.nodes,za9 n.links,zba n.edges],.cells false s_.2 (s_.1.map T.str),.cells false s_2.2 (s_2.1.map T.str)]) ?_ ?_
 ·skip;repeat apply TW.seq
  apply TW.block;repeat apply TW.seq
  refine TW.loopT [1,4,5,7] (fun m h bs=>∃ (i2:Int) (l2:List ByteArray) (n3:Nat),zdv k n m i2 l2 n3=some s_2∧(h 1=.ptr 0 0 3∧h 4=.arr 1 1 0 s_.2 s_.2 s_.2∧h 5=.arr 2 1 0 n3 n3 n3∧h 7=.int .i64 i2)∧bs=[.cells true 3 [za8 n.nodes,za9 n.links,zba n.edges],.cells false s_.2 (s_.1.map T.str),.cells false n3 (l2.map T.str)]) ?_ k _ _ ?_;rotate_left
  ·exact ⟨0,[],0,H1,kq hh,rfl⟩
  clear hh h H1;rintro m h bs ⟨i2,l2,n3,H1,hh,rfl⟩;rcases m with _|m
  ·rw [zdv] at H1;cases H1
  rw [zdv] at H1;repeat apply TW.seq
  refine rk [1,4,5,7,28] [] hh ?_;clear hh h;intro h hh;rcases isp H1 with ⟨c4,H1⟩|⟨c4,H1⟩;rotate_left
  ·skip;repeat apply TW.seq
   refine cf (f2 hh (decide_eq_false c4)) ?_;refine xk ?_;cases H1;exact ce hh ⟨kq hh,rfl⟩
  repeat apply TW.seq
  refine ct (f2 hh (decide_eq_true c4)) ?_;repeat apply TW.seq
  refine sk ?_;repeat apply TW.seq
  apply TW.block;obtain ⟨g5,H1⟩:=isg H1;obtain ⟨g6,H1⟩:=isg H1;repeat apply TW.seq
  refine rg [] [] [.cells true 3 [za8 n.nodes,za9 n.links,zba n.edges],.cells false s_.2 (s_.1.map T.str),.cells false (n3+1) ((l2++[(gx n.edges i2).name]).map T.str)] (fun h=>h 1=.ptr 0 0 3∧h 4=.arr 1 1 0 s_.2 s_.2 s_.2∧h 5=.arr 2 1 0 (n3+1) (n3+1) (n3+1)∧h 7=.int .i64 i2) (f2 hh (zar g5)) trivial ?_;clear hh h;intro h hh;repeat apply TW.seq
  refine rk [1,4,5,7] [] hh ?_;clear hh h;intro h hh;exact rd m hh ⟨(IntKind.i64.wrap (i2+1)),(l2++[(gx n.edges i2).name]),(n3+1),H1,kq hh,rfl⟩
 clear hh h;rintro h bs ⟨hh,rfl⟩;repeat apply TW.seq
 refine rk [2,3] [] hh ?_;clear hh h;intro h hh;obtain ⟨g7,H⟩:=isg H;obtain ⟨g8,H⟩:=isg H;refine TW.freeze 2 (b:=1) (e:=1) (off:=0) (len:=s_.2) (cap:=s_.2) (M:=s_.2) (s_.1.map T.str) (kq hh) (by rfl) (by omega) (by omega) (by rw [List.drop_zero,Nat.mul_one,zjb (fun _=>rfl),List.take_of_length_le (by rw [List.length_map];omega)]) (fun t ht=>by obtain ⟨x,_,rfl⟩:=List.mem_map.1 ht;first|rfl|exact zl2 _|exact zcu _|exact zjw _|exact za6 _ | (rw [List.length_map];rfl)) (by rw [List.length_map];exact g7) (by omega) ?_;rw [ziu _ _ _ (by simp only [lzA]<;>omega)];simp only [scA];refine gk [2,3] hh ?_;clear hh h;intro h hh;refine TW.freeze 3 (b:=2) (e:=1) (off:=0) (len:=s_2.2) (cap:=s_2.2) (M:=s_2.2) (s_2.1.map T.str) (kq hh) (by rfl) (by omega) (by omega) (by rw [List.drop_zero,Nat.mul_one,zjb (fun _=>rfl),List.take_of_length_le (by rw [List.length_map];omega)]) (fun t ht=>by obtain ⟨x,_,rfl⟩:=List.mem_map.1 ht;first|rfl|exact zl2 _|exact zcu _|exact zjw _|exact za6 _ | (rw [List.length_map];rfl)) (by rw [List.length_map];exact g8) (by omega) ?_;rw [ziu _ _ _ (by simp only [lzA]<;>omega)];simp only [scA];refine gk [2,3] hh ?_;clear hh h;intro h hh;cases H;exact rt hh
def zdm (k:Nat) (s_:ByteArray):Nat→Int→Option (Bool ⊕ Unit)
 |0,_=>none
 |m+1,i=>(if i<(s_.size:Int) then (((if (0:Int)≤i∧i<(s_.size:Int) then (if 97≤((bx s_ i).toNat:Int) then some (decide (((bx s_ i).toNat:Int)≤122)) else some false) else none):Option Bool).bind fun s_3=>(((if (0:Int)≤i∧i<(s_.size:Int) then (if 48≤((bx s_ i).toNat:Int) then (if ((bx s_ i).toNat:Int)≤57 then some true else some (decide (((bx s_ i).toNat:Int)=95))) else some (decide (((bx s_ i).toNat:Int)=95))) else none):Option Bool).bind fun s_4=>(if s_3=true then zdm k s_ m (IntKind.i64.wrap (i+1)) else (if s_4=true then (if i=0 then some (.inl false) else zdm k s_ m (IntKind.i64.wrap (i+1))) else some (.inl false))))) else some (.inr ()))
def zkc (k:Nat) (s_:ByteArray):Option Bool:=((zdm k s_ k 0:Option (Bool ⊕ Unit)).bind fun o=>Sum.elim (fun r=>some r) (fun s_2=>(if 1≤(s_.size:Int) then some (decide ((s_.size:Int)≤24)) else some false)) o)
set_option maxHeartbeats 8000000 in
theorem zxk (ax:Axs) (hx:zcs ax) (k:Nat) (s_:ByteArray) (v:Bool) (H:zkc k s_=some v):Pure Tryz.prog (EE ax) [] 101 [.str s_] (.bool v):=by
 rw [zkc] at H;refine en [.tmp 2] 56 [0] (hx.no _ (by decide)) (fn101 ax) ?_;intro h hh;repeat apply TW.seq
 refine rk [0] [] hh ?_;clear hh h;intro h hh;repeat apply TW.seq
 refine rk [0,3] [] hh ?_;clear hh h;intro h hh;obtain ⟨o,H1,H⟩:=zaf H;repeat apply TW.seq
 refine cu [0] 0 (fun h bs=>∃ s_2:Unit,o=.inr s_2∧(h 0=.str s_)∧bs=[]) ?_ ?_
 ·skip;repeat apply TW.seq
  apply TW.block;repeat apply TW.seq
  refine TW.loopT [0,3] (fun m h bs=>∃ (i:Int),zdm k s_ m i=some o∧(h 0=.str s_∧h 3=.int .i64 i)∧bs=[]) ?_ k _ _ ?_;rotate_left
  ·exact ⟨0,H1,kq hh,rfl⟩
  clear hh h H1;rintro m h bs ⟨i,H1,hh,rfl⟩;rcases m with _|m
  ·rw [zdm] at H1;cases H1
  rw [zdm] at H1;repeat apply TW.seq
  refine rk [0,3,9] [] hh ?_;clear hh h;intro h hh;rcases isp H1 with ⟨c1,H1⟩|⟨c1,H1⟩;rotate_left
  ·skip;repeat apply TW.seq
   refine cf (f2 hh (decide_eq_false c1)) ?_;refine xk ?_;cases H1;exact ce hh ⟨_,rfl,kq hh,rfl⟩
  repeat apply TW.seq
  refine ct (f2 hh (decide_eq_true c1)) ?_;repeat apply TW.seq
  refine sk ?_;repeat apply TW.seq
  apply TW.block;obtain ⟨s_3,H2,H1⟩:=zaf H1;repeat apply TW.seq
  refine cu [0,3,4] 0 (fun h bs=>(h 0=.str s_∧h 3=.int .i64 i∧h 4=.bool s_3)∧bs=[]) ?_ ?_
  ·skip;obtain ⟨g2,H2⟩:=isg H2;rcases isp H2 with ⟨c3,H2⟩|⟨c3,H2⟩;rotate_left
   ·skip;repeat apply TW.seq
    refine rk [0,3,4] [] (f3 hh (decide_eq_false c3) (zr6 g2)) ?_;clear hh h;intro h hh;cases H2;exact ce hh ⟨kq hh,rfl⟩
   repeat apply TW.seq
   refine rk [0,3,4] [] (f3 hh (decide_eq_true c3) (zr6 g2)) ?_;clear hh h;intro h hh;cases H2;exact ce hh ⟨kq hh,rfl⟩
  clear hh h;rintro h bs ⟨hh,rfl⟩;obtain ⟨s_4,H2,H1⟩:=zaf H1;repeat apply TW.seq
  refine cu [0,3,4,5] 0 (fun h bs=>(h 0=.str s_∧h 3=.int .i64 i∧h 4=.bool s_3∧h 5=.bool s_4)∧bs=[]) ?_ ?_
  ·skip;obtain ⟨g4,H2⟩:=isg H2;rcases isp H2 with ⟨c5,H2⟩|⟨c5,H2⟩;rotate_left
   ·skip;repeat apply TW.seq
    refine rk [0,3,4,5] [] (f3 hh (decide_eq_false c5) (zr6 g4)) ?_;clear hh h;intro h hh;cases H2;exact ce hh ⟨kq hh,rfl⟩
   rcases isp H2 with ⟨c6,H2⟩|⟨c6,H2⟩;rotate_left
   ·skip;repeat apply TW.seq
    refine rk [0,3,4,5] [] (f3 hh (decide_eq_true c5) (f2 (decide_eq_false c6) (zr6 g4))) ?_;clear hh h;intro h hh;cases H2;exact ce hh ⟨kq hh,rfl⟩
   repeat apply TW.seq
   refine rk [0,3,4,5] [] (f3 hh (decide_eq_true c5) (f2 (decide_eq_true c6) (zr6 g4))) ?_;clear hh h;intro h hh;cases H2;exact ce hh ⟨kq hh,rfl⟩
  clear hh h;rintro h bs ⟨hh,rfl⟩;rcases isb H1 with ⟨c7,H1⟩|⟨c7,H1⟩;rotate_left
  ·skip;rcases isb H1 with ⟨c8,H1⟩|⟨c8,H1⟩;rotate_left
   ·skip;repeat apply TW.seq
    refine rk [0,3,47] [] (f3 hh c7 c8) ?_;clear hh h;intro h hh;repeat apply TW.seq
    refine ct hh ?_;repeat apply TW.seq
    refine rk [2] [] (f3 hh c7 c8) ?_;clear hh h;intro h hh;cases H1;obtain rfl:=sinl H;exact rt hh
   repeat apply TW.seq
   refine rk [0,3,47] [] (f3 hh c7 c8) ?_;clear hh h;intro h hh;rcases isp H1 with ⟨c9,H1⟩|⟨c9,H1⟩;rotate_left
   ·skip;repeat apply TW.seq
    refine cf (f2 hh (decide_eq_false c9)) ?_;repeat apply TW.seq
    refine sk ?_;repeat apply TW.seq
    refine rk [0,3] [] (f3 hh c7 c8) ?_;clear hh h;intro h hh;exact rd m hh ⟨(IntKind.i64.wrap (i+1)),H1,kq hh,rfl⟩
   repeat apply TW.seq
   refine ct (f2 hh (decide_eq_true c9)) ?_;repeat apply TW.seq
   refine rk [2] [] (f3 hh c7 c8) ?_;clear hh h;intro h hh;cases H1;obtain rfl:=sinl H;exact rt hh
  repeat apply TW.seq
  refine rk [0,3,47] [] (f2 hh c7) ?_;clear hh h;intro h hh;repeat apply TW.seq
  refine cf hh ?_;repeat apply TW.seq
  refine sk ?_;repeat apply TW.seq
  refine rk [0,3] [] (f2 hh c7) ?_;clear hh h;intro h hh;exact rd m hh ⟨(IntKind.i64.wrap (i+1)),H1,kq hh,rfl⟩
 clear hh h;rintro h bs ⟨s_2,rfl,hh,rfl⟩;replace H:=sinr H;rcases isp H with ⟨c10,H⟩|⟨c10,H⟩;rotate_left
 ·skip;repeat apply TW.seq
  refine rk [2] [] (f2 hh (decide_eq_false c10)) ?_;clear hh h;intro h hh;cases H;exact rt hh
 repeat apply TW.seq
 refine rk [2] [] (f2 hh (decide_eq_true c10)) ?_;clear hh h;intro h hh;cases H;exact rt hh
def zdt (k:Nat) (l:List ByteArray) (i:Int):Nat→Int→Option (Bool ⊕ Unit)
 |0,_=>none
 |m+1,k_=>(if k_<i then (if (0:Int)≤k_∧k_<(l.length:Int) then (if (gx l k_)=(gx l i) then some (.inl false) else zdt k l i m (IntKind.i64.wrap (k_+1))) else none) else some (.inr ()))
def zdu (k:Nat) (l:List ByteArray):Nat→Int→Option (Bool ⊕ Unit)
 |0,_=>none
 |m+1,i=>(if i<(l.length:Int) then (((if (0:Int)≤i∧i<(l.length:Int) then ((zkc k (gx l i)).bind fun rName=>(if rName=true then ((zdt k l i k 0:Option (Bool ⊕ Unit)).bind fun o=>Sum.elim (fun r=>some (.inl r)) (fun s_3=>some (.inr ())) o) else some (.inl false))) else none):Option (Bool ⊕ Unit)).bind fun o2=>Sum.elim (fun r=>some (.inl r)) (fun s_2=>zdu k l m (IntKind.i64.wrap (i+1))) o2) else some (.inr ()))
def zhh (k:Nat) (l:List ByteArray):Option Bool:=((zdu k l k 0:Option (Bool ⊕ Unit)).bind fun o3=>Sum.elim (fun r=>some r) (fun s_=>some true) o3)
set_option maxHeartbeats 8000000 in
theorem zmg (ax:Axs) (hx:zcs ax) (k:Nat) (l:List ByteArray) (v:Bool) (H:zhh k l=some v):Pure Tryz.prog (EE ax) [] 46 [strs l] (.bool v):=by
 rw [zhh] at H;refine en [.tmp 2] 33 [0] (hx.no _ (by decide)) (fn46 ax) ?_;intro h hh;repeat apply TW.seq
 refine rk [0] [] hh ?_;clear hh h;intro h hh;repeat apply TW.seq
 refine rk [0,3] [] hh ?_;clear hh h;intro h hh;obtain ⟨o3,H1,H⟩:=zaf H;repeat apply TW.seq
 refine cu [] 0 (fun h bs=>∃ s_:Unit,o3=.inr s_∧(True)∧bs=[]) ?_ ?_
 ·skip;repeat apply TW.seq
  apply TW.block;repeat apply TW.seq
  refine TW.loopT [0,3] (fun m h bs=>∃ (i:Int),zdu k l m i=some o3∧(h 0=strs l∧h 3=.int .i64 i)∧bs=[]) ?_ k _ _ ?_;rotate_left
  ·exact ⟨0,H1,kq hh,rfl⟩
  clear hh h H1;rintro m h bs ⟨i,H1,hh,rfl⟩;rcases m with _|m
  ·rw [zdu] at H1;cases H1
  rw [zdu] at H1;repeat apply TW.seq
  refine rk [0,3,9] [] hh ?_;clear hh h;intro h hh;rcases isp H1 with ⟨c1,H1⟩|⟨c1,H1⟩;rotate_left
  ·skip;repeat apply TW.seq
   refine cf (f2 hh (decide_eq_false c1)) ?_;refine xk ?_;cases H1;exact ce hh ⟨_,rfl,kq hh,rfl⟩
  repeat apply TW.seq
  refine ct (f2 hh (decide_eq_true c1)) ?_;repeat apply TW.seq
  refine sk ?_;obtain ⟨o2,H2,H1⟩:=zaf H1;repeat apply TW.seq
  refine cu [0,3] 0 (fun h bs=>∃ s_2:Unit,o2=.inr s_2∧(h 0=strs l∧h 3=.int .i64 i)∧bs=[]) ?_ ?_
  ·skip;repeat apply TW.seq
   apply TW.block;obtain ⟨g2,H2⟩:=isg H2;obtain ⟨rName,e3,H2⟩:=zaf H2;repeat apply TW.seq
   refine rkc [0,3,4] [] [(.bool rName,stL [])] (f2 hh (zar g2)) ?_ ?_
   ·exact ⟨za4.call ((zxk ax hx k (gx l i) rName e3 ).call _),trivial⟩
   clear hh h;intro h hh;repeat apply TW.seq
   refine rk [0,3,18] [] hh ?_;clear hh h;intro h hh;rcases isb H2 with ⟨c4,H2⟩|⟨c4,H2⟩;rotate_left
   ·skip;repeat apply TW.seq
    refine ct (f2 hh c4) ?_;repeat apply TW.seq
    refine rk [2] [] (f2 hh c4) ?_;clear hh h;intro h hh;cases H2;obtain rfl:=sinm H1;obtain rfl:=sinl H;exact rt hh
   repeat apply TW.seq
   refine cf (f2 hh c4) ?_;repeat apply TW.seq
   refine sk ?_;repeat apply TW.seq
   refine rk [0,3,5] [] (f2 hh c4) ?_;clear hh h;intro h hh;obtain ⟨o,H3,H2⟩:=zaf H2;repeat apply TW.seq
   refine cu [0,3] 0 (fun h bs=>∃ s_3:Unit,o=.inr s_3∧(h 0=strs l∧h 3=.int .i64 i)∧bs=[]) ?_ ?_
   ·skip;repeat apply TW.seq
    apply TW.block;repeat apply TW.seq
    refine TW.loopT [0,3,5] (fun m h bs=>∃ (k_:Int),zdt k l i m k_=some o∧(h 0=strs l∧h 3=.int .i64 i∧h 5=.int .i64 k_)∧bs=[]) ?_ k _ _ ?_;rotate_left
    ·exact ⟨0,H3,kq hh,rfl⟩
    clear hh h H3;rintro m h bs ⟨k_,H3,hh,rfl⟩;rcases m with _|m
    ·rw [zdt] at H3;cases H3
    rw [zdt] at H3;repeat apply TW.seq
    refine rk [0,3,5,21] [] (f2 hh c4) ?_;clear hh h;intro h hh;rcases isp H3 with ⟨c5,H3⟩|⟨c5,H3⟩;rotate_left
    ·skip;repeat apply TW.seq
     refine cf (f2 hh (decide_eq_false c5)) ?_;refine xk ?_;cases H3;exact ce hh ⟨_,rfl,kq hh,rfl⟩
    repeat apply TW.seq
    refine ct (f2 hh (decide_eq_true c5)) ?_;repeat apply TW.seq
    refine sk ?_;repeat apply TW.seq
    apply TW.block;obtain ⟨g6,H3⟩:=isg H3;repeat apply TW.seq
    refine dk 8 [0,3,5,32] [] [] [] (f3 hh c4 (f2 (zar g6) (zar g2))) trivial trivial ?_;clear hh h;intro h hh;rcases isp H3 with ⟨c7,H3⟩|⟨c7,H3⟩;rotate_left
    ·skip;repeat apply TW.seq
     refine cf (f2 hh (decide_eq_false c7)) ?_;repeat apply TW.seq
     refine sk ?_;repeat apply TW.seq
     refine rk [0,3,5] [] (f2 hh c4) ?_;clear hh h;intro h hh;exact rd m hh ⟨(IntKind.i64.wrap (k_+1)),H3,kq hh,rfl⟩
    repeat apply TW.seq
    refine ct (f2 hh (decide_eq_true c7)) ?_;repeat apply TW.seq
    refine rk [2] [] (f2 hh c4) ?_;clear hh h;intro h hh;cases H3;obtain rfl:=sinm H2;obtain rfl:=sinm H1;obtain rfl:=sinl H;exact rt hh
   clear hh h;rintro h bs ⟨s_3,rfl,hh,rfl⟩;replace H2:=sinr H2;cases H2;exact ce hh ⟨_,rfl,kq hh,rfl⟩
  clear hh h;rintro h bs ⟨s_2,rfl,hh,rfl⟩;replace H1:=sinr H1;repeat apply TW.seq
  refine rk [0,3] [] hh ?_;clear hh h;intro h hh;exact rd m hh ⟨(IntKind.i64.wrap (i+1)),H1,kq hh,rfl⟩
 clear hh h;rintro h bs ⟨s_,rfl,hh,rfl⟩;replace H:=sinr H;repeat apply TW.seq
 refine rk [2] [] hh ?_;clear hh h;intro h hh;cases H;exact rt hh
def zfk (k:Nat) (n:Net) (k_:Int):Option Bool:=(if 0≤k_ then some (decide (k_<(n.nodes.length:Int))) else some false)
set_option maxHeartbeats 8000000 in
theorem zbm (ax:Axs) (hx:zcs ax) (k:Nat) (n:Net) (k_:Int) (v:Bool) (H:zfk k n k_=some v):Pure Tryz.prog (EE ax) [] 47 [eNet n,.int .i64 k_] (.bool v):=by
 rw [zfk] at H;refine en [.tmp 4] 14 [0,1] (hx.no _ (by decide)) (fn47 ax) ?_;intro h hh;repeat apply TW.seq
 refine rk [1,2] [] hh ?_;clear hh h;intro h hh;rcases isp H with ⟨c1,H⟩|⟨c1,H⟩;rotate_left
 ·skip;repeat apply TW.seq
  refine rk [4] [] (f2 hh (decide_eq_false c1)) ?_;clear hh h;intro h hh;cases H;exact rt hh
 repeat apply TW.seq
 refine rk [4] [] (f2 hh (decide_eq_true c1)) ?_;clear hh h;intro h hh;cases H;exact rt hh
def zdz (k:Nat) (n:Net):Nat→Int→Option (Int ⊕ Unit)
 |0,_=>none
 |m+1,i=>(if i<(n.nodes.length:Int) then (if (0:Int)≤i∧i<(n.nodes.length:Int) then (if ((gx n.nodes i).rules)<0 then some (.inl 1) else (if 4000<((gx n.nodes i).rules) then some (.inl 1) else (if ((gx n.nodes i).entries)<0 then some (.inl 1) else (if 100000<((gx n.nodes i).entries) then some (.inl 1) else zdz k n m (IntKind.i64.wrap (i+1)))))) else none) else some (.inr ()))
def zdy (k:Nat) (n:Net):Nat→Int→Option (Int ⊕ Unit)
 |0,_=>none
 |m+1,i2=>(if i2<(n.links.length:Int) then (if (0:Int)≤i2∧i2<(n.links.length:Int) then ((zfk k n ((gx n.links i2).frm)).bind fun risNode=>(if risNode=true then ((zfk k n ((gx n.links i2).to)).bind fun risNode2=>(if risNode2=true then (if ((gx n.links i2).frm)=((gx n.links i2).to) then some (.inl 1) else (if ((gx n.links i2).cap)<0 then some (.inl 1) else (if 1048576<((gx n.links i2).cap) then some (.inl 1) else zdy k n m (IntKind.i64.wrap (i2+1))))) else some (.inl 1))) else some (.inl 1))) else none) else some (.inr ()))
def zdx (k:Nat) (n:Net):Nat→Int→Option (Int ⊕ Unit)
 |0,_=>none
 |m+1,i3=>(if i3<(n.edges.length:Int) then (if (0:Int)≤i3∧i3<(n.edges.length:Int) then ((zfk k n ((gx n.edges i3).node)).bind fun risNode3=>(if risNode3=true then zdx k n m (IntKind.i64.wrap (i3+1)) else some (.inl 1))) else none) else some (.inr ()))
def zhi (k:Nat) (n:Net):Option Int:=(((if 200<(n.nodes.length:Int) then some true else (if 2000<(n.links.length:Int) then some true else some (decide (400<(n.edges.length:Int))))):Option Bool).bind fun s_=>(if s_=true then some 2 else ((zix k n).bind fun rNames=>((zhh k rNames.1).bind fun rnamed=>((zhh k rNames.2).bind fun rnamed2=>(((if rnamed=true then some (!rnamed2) else some true):Option Bool).bind fun s_2=>(if s_2=true then some 4 else ((zdz k n k 0:Option (Int ⊕ Unit)).bind fun o3=>Sum.elim (fun r=>some r) (fun s_3=>((zdy k n k 0:Option (Int ⊕ Unit)).bind fun o2=>Sum.elim (fun r=>some r) (fun s_4=>((zdx k n k 0:Option (Int ⊕ Unit)).bind fun o=>Sum.elim (fun r=>some r) (fun s_5=>some 0) o)) o2)) o3))))))))
set_option maxHeartbeats 8000000 in
theorem zvq (ax:Axs) (hx:zcs ax) (k:Nat) (n:Net) (v:Int) (H:zhi k n=some v):Pure Tryz.prog (EE ax) [] 10 [eNet n] (.int .i64 v):=by
 rw [zhi] at H;refine en [.tmp 2] 130 [0] (hx.no _ (by decide)) (fn10 ax) ?_;intro h hh;repeat apply TW.seq
 refine rk [1] [] hh ?_;clear hh h;intro h hh;obtain ⟨s_,H1,H⟩:=zaf H;repeat apply TW.seq
 refine cu [1,27] 1 (fun h bs=>(h 1=.ptr 0 0 3∧h 27=.bool s_)∧bs=[.cells true 3 [za8 n.nodes,za9 n.links,zba n.edges]]) ?_ ?_
 ·skip;rcases isp H1 with ⟨c1,H1⟩|⟨c1,H1⟩;rotate_left
  ·skip;rcases isp H1 with ⟨c2,H1⟩|⟨c2,H1⟩;rotate_left
   ·skip;repeat apply TW.seq
    refine rk [1,27] [] (f3 hh (decide_eq_false c1) (decide_eq_false c2)) ?_;clear hh h;intro h hh;cases H1;exact ce hh ⟨kq hh,rfl⟩
   repeat apply TW.seq
   refine rk [1,27] [] (f3 hh (decide_eq_false c1) (decide_eq_true c2)) ?_;clear hh h;intro h hh;cases H1;exact ce hh ⟨kq hh,rfl⟩
  repeat apply TW.seq
  refine rk [1,27] [] (f2 hh (decide_eq_true c1)) ?_;clear hh h;intro h hh;cases H1;exact ce hh ⟨kq hh,rfl⟩
 clear hh h;rintro h bs ⟨hh,rfl⟩;rcases isb H with ⟨c3,H⟩|⟨c3,H⟩;rotate_left
 ·skip;repeat apply TW.seq
  refine cf (f2 hh c3) ?_;repeat apply TW.seq
  refine sk ?_;obtain ⟨rNames,e4,H⟩:=zaf H;repeat apply TW.seq
  refine rkc [1,3,4] [] [(.tup [strs rNames.1,strs rNames.2],stL [.cells true 3 [za8 n.nodes,za9 n.links,zba n.edges]])] (f2 hh c3) ?_ ?_
  ·exact ⟨za4.call (Pure.clr (zvp ax hx k n rNames e4 ) (by first|rfl|simp only [c3])),trivial⟩
  clear hh h;intro h hh;obtain ⟨rnamed,e5,H⟩:=zaf H;repeat apply TW.seq
  refine rkc [1,4,5] [] [(.bool rnamed,stL [.cells true 3 [za8 n.nodes,za9 n.links,zba n.edges]])] (f2 hh c3) ?_ ?_
  ·exact ⟨za4.call (Pure.clr (zmg ax hx k rNames.1 rnamed e5 ) (by first|rfl|simp only [c3])),trivial⟩
  clear hh h;intro h hh;obtain ⟨rnamed2,e6,H⟩:=zaf H;repeat apply TW.seq
  refine rkc [1,5,6] [] [(.bool rnamed2,stL [.cells true 3 [za8 n.nodes,za9 n.links,zba n.edges]])] (f2 hh c3) ?_ ?_
  ·exact ⟨za4.call (Pure.clr (zmg ax hx k rNames.2 rnamed2 e6 ) (by first|rfl|simp only [c3])),trivial⟩
  clear hh h;intro h hh;obtain ⟨s_2,H1,H⟩:=zaf H;repeat apply TW.seq
  refine cu [1,42] 1 (fun h bs=>(h 1=.ptr 0 0 3∧h 42=.bool s_2)∧bs=[.cells true 3 [za8 n.nodes,za9 n.links,zba n.edges]]) ?_ ?_
  ·skip;rcases isb H1 with ⟨c7,H1⟩|⟨c7,H1⟩;rotate_left
   ·skip;repeat apply TW.seq
    refine rk [1,42] [] (f3 hh c7 c3) ?_;clear hh h;intro h hh;cases H1;exact ce hh ⟨kq hh,rfl⟩
   repeat apply TW.seq
   refine rk [1,42] [] (f3 hh c7 c3) ?_;clear hh h;intro h hh;cases H1;exact ce hh ⟨kq hh,rfl⟩
  clear hh h;rintro h bs ⟨hh,rfl⟩;rcases isb H with ⟨c8,H⟩|⟨c8,H⟩;rotate_left
  ·skip;repeat apply TW.seq
   refine cf (f2 hh c8) ?_;repeat apply TW.seq
   refine sk ?_;repeat apply TW.seq
   refine rk [1,7] [] (f3 hh c3 c8) ?_;clear hh h;intro h hh;obtain ⟨o3,H1,H⟩:=zaf H;repeat apply TW.seq
   refine cu [1] 1 (fun h bs=>∃ s_3:Unit,o3=.inr s_3∧(h 1=.ptr 0 0 3)∧bs=[.cells true 3 [za8 n.nodes,za9 n.links,zba n.edges]]) ?_ ?_
   ·skip;repeat apply TW.seq
    apply TW.block;repeat apply TW.seq
    refine TW.loopT [1,7] (fun m h bs=>∃ (i:Int),zdz k n m i=some o3∧(h 1=.ptr 0 0 3∧h 7=.int .i64 i)∧bs=[.cells true 3 [za8 n.nodes,za9 n.links,zba n.edges]]) ?_ k _ _ ?_;rotate_left
    ·exact ⟨0,H1,kq hh,rfl⟩
    clear hh h H1;rintro m h bs ⟨i,H1,hh,rfl⟩;rcases m with _|m
    ·rw [zdz] at H1;cases H1
    rw [zdz] at H1;repeat apply TW.seq
    refine rk [1,7,47] [] (f3 hh c3 c8) ?_;clear hh h;intro h hh;rcases isp H1 with ⟨c9,H1⟩|⟨c9,H1⟩;rotate_left
    ·skip;repeat apply TW.seq
     refine cf (f2 hh (decide_eq_false c9)) ?_;refine xk ?_;cases H1;exact ce hh ⟨_,rfl,kq hh,rfl⟩
    repeat apply TW.seq
    refine ct (f2 hh (decide_eq_true c9)) ?_;repeat apply TW.seq
    refine sk ?_;repeat apply TW.seq
    apply TW.block;obtain ⟨g10,H1⟩:=isg H1;repeat apply TW.seq
    refine rk [1,7,8] [] (f3 hh c3 (f2 c8 (zar g10))) ?_;clear hh h;intro h hh;rcases isp H1 with ⟨c11,H1⟩|⟨c11,H1⟩;rotate_left
    ·skip;rcases isp H1 with ⟨c12,H1⟩|⟨c12,H1⟩;rotate_left
     ·skip;rcases isp H1 with ⟨c13,H1⟩|⟨c13,H1⟩;rotate_left
      ·skip;repeat apply TW.seq
       refine rk [1,7,72] [] (f3 hh (decide_eq_false c11) (f3 (decide_eq_false c12) (decide_eq_false c13) (f2 c3 c8))) ?_;clear hh h;intro h hh;rcases isp H1 with ⟨c14,H1⟩|⟨c14,H1⟩;rotate_left
       ·skip;repeat apply TW.seq
        refine cf (f2 hh (decide_eq_false c14)) ?_;repeat apply TW.seq
        refine sk ?_;repeat apply TW.seq
        refine rk [1,7] [] (f3 hh c3 c8) ?_;clear hh h;intro h hh;exact rd m hh ⟨(IntKind.i64.wrap (i+1)),H1,kq hh,rfl⟩
       repeat apply TW.seq
       refine ct (f2 hh (decide_eq_true c14)) ?_;repeat apply TW.seq
       refine rk [2] [] (f3 hh c3 c8) ?_;clear hh h;intro h hh;cases H1;obtain rfl:=sinl H;exact rt hh
      repeat apply TW.seq
      refine rk [1,7,72] [] (f3 hh (decide_eq_false c11) (f3 (decide_eq_false c12) (decide_eq_true c13) (f2 c3 c8))) ?_;clear hh h;intro h hh;repeat apply TW.seq
      refine ct hh ?_;repeat apply TW.seq
      refine rk [2] [] (f3 hh c3 c8) ?_;clear hh h;intro h hh;cases H1;obtain rfl:=sinl H;exact rt hh
     repeat apply TW.seq
     refine rk [1,7,72] [] (f3 hh (decide_eq_false c11) (f3 (decide_eq_true c12) c3 c8)) ?_;clear hh h;intro h hh;repeat apply TW.seq
     refine ct hh ?_;repeat apply TW.seq
     refine rk [2] [] (f3 hh c3 c8) ?_;clear hh h;intro h hh;cases H1;obtain rfl:=sinl H;exact rt hh
    repeat apply TW.seq
    refine rk [1,7,72] [] (f3 hh (decide_eq_true c11) (f2 c3 c8)) ?_;clear hh h;intro h hh;repeat apply TW.seq
    refine ct hh ?_;repeat apply TW.seq
    refine rk [2] [] (f3 hh c3 c8) ?_;clear hh h;intro h hh;cases H1;obtain rfl:=sinl H;exact rt hh
   clear hh h;rintro h bs ⟨s_3,rfl,hh,rfl⟩;replace H:=sinr H;repeat apply TW.seq
   refine rk [1,9] [] (f3 hh c3 c8) ?_;clear hh h;intro h hh;obtain ⟨o2,H1,H⟩:=zaf H;repeat apply TW.seq
   refine cu [1] 1 (fun h bs=>∃ s_4:Unit,o2=.inr s_4∧(h 1=.ptr 0 0 3)∧bs=[.cells true 3 [za8 n.nodes,za9 n.links,zba n.edges]]) ?_ ?_
   ·skip;repeat apply TW.seq
    apply TW.block;repeat apply TW.seq
    refine TW.loopT [1,9] (fun m h bs=>∃ (i2:Int),zdy k n m i2=some o2∧(h 1=.ptr 0 0 3∧h 9=.int .i64 i2)∧bs=[.cells true 3 [za8 n.nodes,za9 n.links,zba n.edges]]) ?_ k _ _ ?_;rotate_left
    ·exact ⟨0,H1,kq hh,rfl⟩
    clear hh h H1;rintro m h bs ⟨i2,H1,hh,rfl⟩;rcases m with _|m
    ·rw [zdy] at H1;cases H1
    rw [zdy] at H1;repeat apply TW.seq
    refine rk [1,9,77] [] (f3 hh c3 c8) ?_;clear hh h;intro h hh;rcases isp H1 with ⟨c15,H1⟩|⟨c15,H1⟩;rotate_left
    ·skip;repeat apply TW.seq
     refine cf (f2 hh (decide_eq_false c15)) ?_;refine xk ?_;cases H1;exact ce hh ⟨_,rfl,kq hh,rfl⟩
    repeat apply TW.seq
    refine ct (f2 hh (decide_eq_true c15)) ?_;repeat apply TW.seq
    refine sk ?_;repeat apply TW.seq
    apply TW.block;obtain ⟨g16,H1⟩:=isg H1;repeat apply TW.seq
    refine rk [1,9,10] [] (f3 hh c3 (f2 c8 (zar g16))) ?_;clear hh h;intro h hh;obtain ⟨risNode,e17,H1⟩:=zaf H1;rcases isb H1 with ⟨c18,H1⟩|⟨c18,H1⟩;rotate_left
    ·skip;repeat apply TW.seq
     refine rkc [1,9,113] [] [(.bool risNode,stL [.cells true 3 [za8 n.nodes,za9 n.links,zba n.edges],.cells true 3 [.int .i64 ((gx n.links i2).frm),.int .i64 ((gx n.links i2).to),.int .i64 ((gx n.links i2).cap)]])] (f3 hh c18 (f2 c3 c8)) ?_ ?_
     ·exact ⟨za4.call (Pure.clr (zbm ax hx k n ((gx n.links i2).frm) risNode e17 ) (by first|rfl|simp only [c3,c8,c18])),trivial⟩
     clear hh h;intro h hh;repeat apply TW.seq
     refine ct hh ?_;repeat apply TW.seq
     refine rk [2] [] (f3 hh c3 (f2 c8 c18)) ?_;clear hh h;intro h hh;cases H1;obtain rfl:=sinl H;exact rt hh
    obtain ⟨risNode2,e19,H1⟩:=zaf H1;rcases isb H1 with ⟨c20,H1⟩|⟨c20,H1⟩;rotate_left
    ·skip;repeat apply TW.seq
     refine rkc [1,9,113] [] [(.bool risNode,stL [.cells true 3 [za8 n.nodes,za9 n.links,zba n.edges],.cells true 3 [.int .i64 ((gx n.links i2).frm),.int .i64 ((gx n.links i2).to),.int .i64 ((gx n.links i2).cap)]]),(.bool risNode2,stL [.cells true 3 [za8 n.nodes,za9 n.links,zba n.edges],.cells true 3 [.int .i64 ((gx n.links i2).frm),.int .i64 ((gx n.links i2).to),.int .i64 ((gx n.links i2).cap)]])] (f3 hh c18 (f3 c20 c3 c8)) ?_ ?_
     ·exact ⟨za4.call (Pure.clr (zbm ax hx k n ((gx n.links i2).frm) risNode e17 ) (by first|rfl|simp only [c3,c8,c18,c20])),za4.call (Pure.clr (zbm ax hx k n ((gx n.links i2).to) risNode2 e19 ) (by first|rfl|simp only [c3,c8,c18,c20])),trivial⟩
     clear hh h;intro h hh;repeat apply TW.seq
     refine ct hh ?_;repeat apply TW.seq
     refine rk [2] [] (f3 hh c3 (f3 c8 c18 c20)) ?_;clear hh h;intro h hh;cases H1;obtain rfl:=sinl H;exact rt hh
    rcases isp H1 with ⟨c21,H1⟩|⟨c21,H1⟩;rotate_left
    ·skip;rcases isp H1 with ⟨c22,H1⟩|⟨c22,H1⟩;rotate_left
     ·skip;repeat apply TW.seq
      refine rkc [1,9,113] [] [(.bool risNode,stL [.cells true 3 [za8 n.nodes,za9 n.links,zba n.edges],.cells true 3 [.int .i64 ((gx n.links i2).frm),.int .i64 ((gx n.links i2).to),.int .i64 ((gx n.links i2).cap)]]),(.bool risNode2,stL [.cells true 3 [za8 n.nodes,za9 n.links,zba n.edges],.cells true 3 [.int .i64 ((gx n.links i2).frm),.int .i64 ((gx n.links i2).to),.int .i64 ((gx n.links i2).cap)]])] (f3 hh c18 (f3 c20 (decide_eq_false c21) (f3 (decide_eq_false c22) c3 c8))) ?_ ?_
      ·exact ⟨za4.call (Pure.clr (zbm ax hx k n ((gx n.links i2).frm) risNode e17 ) (by first|rfl|simp only [c3,c8,c18,c20])),za4.call (Pure.clr (zbm ax hx k n ((gx n.links i2).to) risNode2 e19 ) (by first|rfl|simp only [c3,c8,c18,c20])),trivial⟩
      clear hh h;intro h hh;rcases isp H1 with ⟨c23,H1⟩|⟨c23,H1⟩;rotate_left
      ·skip;repeat apply TW.seq
       refine cf (f2 hh (decide_eq_false c23)) ?_;repeat apply TW.seq
       refine sk ?_;repeat apply TW.seq
       refine rk [1,9] [] (f3 hh c3 (f3 c8 c18 c20)) ?_;clear hh h;intro h hh;exact rd m hh ⟨(IntKind.i64.wrap (i2+1)),H1,kq hh,rfl⟩
      repeat apply TW.seq
      refine ct (f2 hh (decide_eq_true c23)) ?_;repeat apply TW.seq
      refine rk [2] [] (f3 hh c3 (f3 c8 c18 c20)) ?_;clear hh h;intro h hh;cases H1;obtain rfl:=sinl H;exact rt hh
     repeat apply TW.seq
     refine rkc [1,9,113] [] [(.bool risNode,stL [.cells true 3 [za8 n.nodes,za9 n.links,zba n.edges],.cells true 3 [.int .i64 ((gx n.links i2).frm),.int .i64 ((gx n.links i2).to),.int .i64 ((gx n.links i2).cap)]]),(.bool risNode2,stL [.cells true 3 [za8 n.nodes,za9 n.links,zba n.edges],.cells true 3 [.int .i64 ((gx n.links i2).frm),.int .i64 ((gx n.links i2).to),.int .i64 ((gx n.links i2).cap)]])] (f3 hh c18 (f3 c20 (decide_eq_false c21) (f3 (decide_eq_true c22) c3 c8))) ?_ ?_
     ·exact ⟨za4.call (Pure.clr (zbm ax hx k n ((gx n.links i2).frm) risNode e17 ) (by first|rfl|simp only [c3,c8,c18,c20])),za4.call (Pure.clr (zbm ax hx k n ((gx n.links i2).to) risNode2 e19 ) (by first|rfl|simp only [c3,c8,c18,c20])),trivial⟩
     clear hh h;intro h hh;repeat apply TW.seq
     refine ct hh ?_;repeat apply TW.seq
     refine rk [2] [] (f3 hh c3 (f3 c8 c18 c20)) ?_;clear hh h;intro h hh;cases H1;obtain rfl:=sinl H;exact rt hh
    repeat apply TW.seq
    refine rkc [1,9,113] [] [(.bool risNode,stL [.cells true 3 [za8 n.nodes,za9 n.links,zba n.edges],.cells true 3 [.int .i64 ((gx n.links i2).frm),.int .i64 ((gx n.links i2).to),.int .i64 ((gx n.links i2).cap)]]),(.bool risNode2,stL [.cells true 3 [za8 n.nodes,za9 n.links,zba n.edges],.cells true 3 [.int .i64 ((gx n.links i2).frm),.int .i64 ((gx n.links i2).to),.int .i64 ((gx n.links i2).cap)]])] (f3 hh c18 (f3 c20 (decide_eq_true c21) (f2 c3 c8))) ?_ ?_
    ·exact ⟨za4.call (Pure.clr (zbm ax hx k n ((gx n.links i2).frm) risNode e17 ) (by first|rfl|simp only [c3,c8,c18,c20])),za4.call (Pure.clr (zbm ax hx k n ((gx n.links i2).to) risNode2 e19 ) (by first|rfl|simp only [c3,c8,c18,c20])),trivial⟩
    clear hh h;intro h hh;repeat apply TW.seq
    refine ct hh ?_;repeat apply TW.seq
    refine rk [2] [] (f3 hh c3 (f3 c8 c18 c20)) ?_;clear hh h;intro h hh;cases H1;obtain rfl:=sinl H;exact rt hh
   clear hh h;rintro h bs ⟨s_4,rfl,hh,rfl⟩;replace H:=sinr H;repeat apply TW.seq
   refine rk [1,11] [] (f3 hh c3 c8) ?_;clear hh h;intro h hh;obtain ⟨o,H1,H⟩:=zaf H;repeat apply TW.seq
   refine cu [] 1 (fun h bs=>∃ s_5:Unit,o=.inr s_5∧(True)∧bs=[.cells true 3 [za8 n.nodes,za9 n.links,zba n.edges]]) ?_ ?_
   ·skip;repeat apply TW.seq
    apply TW.block;repeat apply TW.seq
    refine TW.loopT [1,11] (fun m h bs=>∃ (i3:Int),zdx k n m i3=some o∧(h 1=.ptr 0 0 3∧h 11=.int .i64 i3)∧bs=[.cells true 3 [za8 n.nodes,za9 n.links,zba n.edges]]) ?_ k _ _ ?_;rotate_left
    ·exact ⟨0,H1,kq hh,rfl⟩
    clear hh h H1;rintro m h bs ⟨i3,H1,hh,rfl⟩;rcases m with _|m
    ·rw [zdx] at H1;cases H1
    rw [zdx] at H1;repeat apply TW.seq
    refine rk [1,11,118] [] (f3 hh c3 c8) ?_;clear hh h;intro h hh;rcases isp H1 with ⟨c24,H1⟩|⟨c24,H1⟩;rotate_left
    ·skip;repeat apply TW.seq
     refine cf (f2 hh (decide_eq_false c24)) ?_;refine xk ?_;cases H1;exact ce hh ⟨_,rfl,kq hh,rfl⟩
    repeat apply TW.seq
    refine ct (f2 hh (decide_eq_true c24)) ?_;repeat apply TW.seq
    refine sk ?_;repeat apply TW.seq
    apply TW.block;obtain ⟨g25,H1⟩:=isg H1;obtain ⟨risNode3,e26,H1⟩:=zaf H1;repeat apply TW.seq
    refine dk 7 [1,11,129] [] [] [(.bool risNode3,stL [.cells true 3 [za8 n.nodes,za9 n.links,zba n.edges]])] (f3 hh c3 (f2 c8 (zar g25))) trivial ?_ ?_
    ·exact ⟨za4.call (Pure.clr (zbm ax hx k n ((gx n.edges i3).node) risNode3 e26 ) (by first|rfl|simp only [c3,c8])),trivial⟩
    clear hh h;intro h hh;rcases isb H1 with ⟨c27,H1⟩|⟨c27,H1⟩;rotate_left
    ·skip;repeat apply TW.seq
     refine ct (f2 hh c27) ?_;repeat apply TW.seq
     refine rk [2] [] (f3 hh c3 (f2 c8 c27)) ?_;clear hh h;intro h hh;cases H1;obtain rfl:=sinl H;exact rt hh
    repeat apply TW.seq
    refine cf (f2 hh c27) ?_;repeat apply TW.seq
    refine sk ?_;repeat apply TW.seq
    refine rk [1,11] [] (f3 hh c3 (f2 c8 c27)) ?_;clear hh h;intro h hh;exact rd m hh ⟨(IntKind.i64.wrap (i3+1)),H1,kq hh,rfl⟩
   clear hh h;rintro h bs ⟨s_5,rfl,hh,rfl⟩;replace H:=sinr H;repeat apply TW.seq
   refine rk [2] [] (f3 hh c3 c8) ?_;clear hh h;intro h hh;cases H;exact rt hh
  repeat apply TW.seq
  refine ct (f2 hh c8) ?_;repeat apply TW.seq
  refine rk [2] [] (f3 hh c3 c8) ?_;clear hh h;intro h hh;cases H;exact rt hh
 repeat apply TW.seq
 refine ct (f2 hh c3) ?_;repeat apply TW.seq
 refine rk [2] [] (f2 hh c3) ?_;clear hh h;intro h hh;cases H;exact rt hh
def zem (k:Nat) (t:List Rule) (k_:Int):Nat→Int→Option (Bool ⊕ Unit)
 |0,_=>none
 |m+1,i=>(if i<(((gx t k_).outs).length:Int) then (if (0:Int)≤i∧i<(((gx t k_).outs).length:Int) then (if 10<((gx ((gx t k_).outs) i).length:Int) then some (.inl false) else zem k t k_ m (IntKind.i64.wrap (i+1))) else none) else some (.inr ()))
def zen (k:Nat) (t:List Rule):Nat→Int→Option (Bool ⊕ Unit)
 |0,_=>none
 |m+1,k_=>(if k_<(t.length:Int) then (((if (0:Int)≤k_∧k_<(t.length:Int) then (if 20<(((gx t k_).outs).length:Int) then some (.inl false) else ((zem k t k_ k 0:Option (Bool ⊕ Unit)).bind fun o=>Sum.elim (fun r=>some (.inl r)) (fun s_3=>some (.inr ())) o)) else none):Option (Bool ⊕ Unit)).bind fun o2=>Sum.elim (fun r=>some (.inl r)) (fun s_2=>zen k t m (IntKind.i64.wrap (k_+1))) o2) else some (.inr ()))
def zmf (k:Nat) (t:List Rule) (most:Int):Option Bool:=((zen k t k 0:Option (Bool ⊕ Unit)).bind fun o3=>Sum.elim (fun r=>some r) (fun s_=>some (decide ((t.length:Int)≤most))) o3)
set_option maxHeartbeats 8000000 in
theorem z0m (ax:Axs) (hx:zcs ax) (k:Nat) (t:List Rule) (most:Int) (v:Bool) (H:zmf k t most=some v):Pure Tryz.prog (EE ax) [] 11 [zbd t,.int .i64 most] (.bool v):=by
 rw [zmf] at H;refine en [.tmp 4] 44 [0,1] (hx.no _ (by decide)) (fn11 ax) ?_;intro h hh;repeat apply TW.seq
 refine rk [0,1] [] hh ?_;clear hh h;intro h hh;repeat apply TW.seq
 refine rk [0,1,5] [] hh ?_;clear hh h;intro h hh;obtain ⟨o3,H1,H⟩:=zaf H;repeat apply TW.seq
 refine cu [0,1] 0 (fun h bs=>∃ s_:Unit,o3=.inr s_∧(h 0=zbd t∧h 1=.int .i64 most)∧bs=[]) ?_ ?_
 ·skip;repeat apply TW.seq
  apply TW.block;repeat apply TW.seq
  refine TW.loopT [0,1,5] (fun m h bs=>∃ (k_:Int),zen k t m k_=some o3∧(h 0=zbd t∧h 1=.int .i64 most∧h 5=.int .i64 k_)∧bs=[]) ?_ k _ _ ?_;rotate_left
  ·exact ⟨0,H1,kq hh,rfl⟩
  clear hh h H1;rintro m h bs ⟨k_,H1,hh,rfl⟩;rcases m with _|m
  ·rw [zen] at H1;cases H1
  rw [zen] at H1;repeat apply TW.seq
  refine rk [0,1,5,10] [] hh ?_;clear hh h;intro h hh;rcases isp H1 with ⟨c1,H1⟩|⟨c1,H1⟩;rotate_left
  ·skip;repeat apply TW.seq
   refine cf (f2 hh (decide_eq_false c1)) ?_;refine xk ?_;cases H1;exact ce hh ⟨_,rfl,kq hh,rfl⟩
  repeat apply TW.seq
  refine ct (f2 hh (decide_eq_true c1)) ?_;repeat apply TW.seq
  refine sk ?_;obtain ⟨o2,H2,H1⟩:=zaf H1;repeat apply TW.seq
  refine cu [0,1,5] 0 (fun h bs=>∃ s_2:Unit,o2=.inr s_2∧(h 0=zbd t∧h 1=.int .i64 most∧h 5=.int .i64 k_)∧bs=[]) ?_ ?_
  ·skip;repeat apply TW.seq
   apply TW.block;obtain ⟨g2,H2⟩:=isg H2;repeat apply TW.seq
   refine rk [0,1,5,19] [] (f2 hh (zar g2)) ?_;clear hh h;intro h hh;rcases isp H2 with ⟨c3,H2⟩|⟨c3,H2⟩;rotate_left
   ·skip;repeat apply TW.seq
    refine cf (f2 hh (decide_eq_false c3)) ?_;repeat apply TW.seq
    refine sk ?_;repeat apply TW.seq
    refine rk [0,1,5,6] [] hh ?_;clear hh h;intro h hh;obtain ⟨o,H3,H2⟩:=zaf H2;repeat apply TW.seq
    refine cu [0,1,5] 0 (fun h bs=>∃ s_3:Unit,o=.inr s_3∧(h 0=zbd t∧h 1=.int .i64 most∧h 5=.int .i64 k_)∧bs=[]) ?_ ?_
    ·skip;repeat apply TW.seq
     apply TW.block;repeat apply TW.seq
     refine TW.loopT [0,1,5,6] (fun m h bs=>∃ (i:Int),zem k t k_ m i=some o∧(h 0=zbd t∧h 1=.int .i64 most∧h 5=.int .i64 k_∧h 6=.int .i64 i)∧bs=[]) ?_ k _ _ ?_;rotate_left
     ·exact ⟨0,H3,kq hh,rfl⟩
     clear hh h H3;rintro m h bs ⟨i,H3,hh,rfl⟩;rcases m with _|m
     ·rw [zem] at H3;cases H3
     rw [zem] at H3;repeat apply TW.seq
     refine rk [0,1,5,6,27] [] (f2 hh (zar g2)) ?_;clear hh h;intro h hh;rcases isp H3 with ⟨c4,H3⟩|⟨c4,H3⟩;rotate_left
     ·skip;repeat apply TW.seq
      refine cf (f2 hh (decide_eq_false c4)) ?_;refine xk ?_;cases H3;exact ce hh ⟨_,rfl,kq hh,rfl⟩
     repeat apply TW.seq
     refine ct (f2 hh (decide_eq_true c4)) ?_;repeat apply TW.seq
     refine sk ?_;repeat apply TW.seq
     apply TW.block;obtain ⟨g5,H3⟩:=isg H3;repeat apply TW.seq
     refine rk [0,1,5,6,39] [] (f3 hh (zar g2) (zar g5)) ?_;clear hh h;intro h hh;rcases isp H3 with ⟨c6,H3⟩|⟨c6,H3⟩;rotate_left
     ·skip;repeat apply TW.seq
      refine cf (f2 hh (decide_eq_false c6)) ?_;repeat apply TW.seq
      refine sk ?_;repeat apply TW.seq
      refine rk [0,1,5,6] [] hh ?_;clear hh h;intro h hh;exact rd m hh ⟨(IntKind.i64.wrap (i+1)),H3,kq hh,rfl⟩
     repeat apply TW.seq
     refine ct (f2 hh (decide_eq_true c6)) ?_;repeat apply TW.seq
     refine rk [4] [] hh ?_;clear hh h;intro h hh;cases H3;obtain rfl:=sinm H2;obtain rfl:=sinm H1;obtain rfl:=sinl H;exact rt hh
    clear hh h;rintro h bs ⟨s_3,rfl,hh,rfl⟩;replace H2:=sinr H2;cases H2;exact ce hh ⟨_,rfl,kq hh,rfl⟩
   repeat apply TW.seq
   refine ct (f2 hh (decide_eq_true c3)) ?_;repeat apply TW.seq
   refine rk [4] [] hh ?_;clear hh h;intro h hh;cases H2;obtain rfl:=sinm H1;obtain rfl:=sinl H;exact rt hh
  clear hh h;rintro h bs ⟨s_2,rfl,hh,rfl⟩;replace H1:=sinr H1;repeat apply TW.seq
  refine rk [0,1,5] [] hh ?_;clear hh h;intro h hh;exact rd m hh ⟨(IntKind.i64.wrap (k_+1)),H1,kq hh,rfl⟩
 clear hh h;rintro h bs ⟨s_,rfl,hh,rfl⟩;replace H:=sinr H;repeat apply TW.seq
 refine rk [4] [] hh ?_;clear hh h;intro h hh;cases H;exact rt hh
end
section
open Go Go.RowKit
set_option maxRecDepth 100000
def zd0 (k:Nat) (i:Int):Nat→Int→Int→Option Int
 |0,_,_=>none
 |m+1,v_,k_=>(if (0:Int)≤i∧0<16 then (if k_<(i % 16) then (if (0:Int)≤v_∧0<2 then zd0 k i m (IntKind.i64.wrap (v_ / 2)) (IntKind.i64.wrap (k_+1)) else none) else some v_) else none)
def zhj (k:Nat) (i:Int):Option Int:=((zd0 k i k 32768 0:Option Int).bind fun s_=>some s_)
set_option maxHeartbeats 8000000 in
theorem zmi (ax:Axs) (hx:zcs ax) (k:Nat) (i:Int) (v:Int) (H:zhj k i=some v):Pure Tryz.prog (EE ax) [] 137 [.int .i64 i] (.int .i64 v):=by
 rw [zhj] at H;refine en [.tmp 2] 14 [0] (hx.no _ (by decide)) (fn137 ax) ?_;intro h hh;repeat apply TW.seq
 refine rk [0] [] hh ?_;clear hh h;intro h hh;repeat apply TW.seq
 refine rk [0,3] [] hh ?_;clear hh h;intro h hh;repeat apply TW.seq
 refine rk [0,3,4] [] hh ?_;clear hh h;intro h hh;obtain ⟨s_,H1,H⟩:=zaf H;repeat apply TW.seq
 refine cu [3] 0 (fun h bs=>(h 3=.int .i64 s_)∧bs=[]) ?_ ?_
 ·skip;repeat apply TW.seq
  apply TW.block;repeat apply TW.seq
  refine TW.loopT [0,3,4] (fun m h bs=>∃ (v_:Int) (k_:Int),zd0 k i m v_ k_=some s_∧(h 0=.int .i64 i∧h 3=.int .i64 v_∧h 4=.int .i64 k_)∧bs=[]) ?_ k _ _ ?_;rotate_left
  ·exact ⟨32768,0,H1,kq hh,rfl⟩
  clear hh h H1;rintro m h bs ⟨v_,k_,H1,hh,rfl⟩;rcases m with _|m
  ·rw [zd0] at H1;cases H1
  rw [zd0] at H1;obtain ⟨g1,H1⟩:=isg H1;repeat apply TW.seq
  refine rk [0,3,4,8] [] hh ?_;clear hh h;intro h hh;rcases isp H1 with ⟨c2,H1⟩|⟨c2,H1⟩;rotate_left
  ·skip;repeat apply TW.seq
   refine cf (f2 hh (decide_eq_false c2)) ?_;refine xk ?_;cases H1;exact ce hh ⟨kq hh,rfl⟩
  repeat apply TW.seq
  refine ct (f2 hh (decide_eq_true c2)) ?_;repeat apply TW.seq
  refine sk ?_;repeat apply TW.seq
  apply TW.block;obtain ⟨g3,H1⟩:=isg H1;repeat apply TW.seq
  refine rk [0,3,4] [] hh ?_;clear hh h;intro h hh;repeat apply TW.seq
  refine rk [0,3,4] [] hh ?_;clear hh h;intro h hh;exact rd m hh ⟨(IntKind.i64.wrap (v_ / 2)),(IntKind.i64.wrap (k_+1)),H1,kq hh,rfl⟩
 clear hh h;rintro h bs ⟨hh,rfl⟩;repeat apply TW.seq
 refine rk [2] [] hh ?_;clear hh h;intro h hh;cases H;exact rt hh
def zez (k:Nat) (h_:Ar 10) (i:Int):Option Int:=(if (0:Int)≤i∧0<16 then (if (0:Int)≤(IntKind.i64.wrap (i / 16))∧(IntKind.i64.wrap (i / 16))<(10:Int) then ((zhj k i).bind fun rvalue=>(if (0:Int)≤(gx h_.l (IntKind.i64.wrap (i / 16)))∧0<rvalue then (if (0:Int)≤(IntKind.i64.wrap ((gx h_.l (IntKind.i64.wrap (i / 16))) / rvalue))∧0<2 then some ((IntKind.i64.wrap ((gx h_.l (IntKind.i64.wrap (i / 16))) / rvalue)) % 2) else none) else none)) else none) else none)
set_option maxHeartbeats 8000000 in
theorem zdc (ax:Axs) (hx:zcs ax) (k:Nat) (h_:Ar 10) (i:Int) (v:Int) (H:zez k h_ i=some v):Pure Tryz.prog (EE ax) [] 114 [.agg (h_.l.map (T.int .i64)),.int .i64 i] (.int .i64 v):=by
 rw [zez] at H;refine en [.tmp 4] 13 [0,1] (hx.no _ (by decide)) (fn114 ax) ?_;intro h hh;repeat apply TW.seq
 refine rk [1,2] [] hh ?_;clear hh h;intro h hh;obtain ⟨g1,H⟩:=isg H;obtain ⟨g2,H⟩:=isg H;obtain ⟨rvalue,e3,H⟩:=zaf H;obtain ⟨g4,H⟩:=isg H;obtain ⟨g5,H⟩:=isg H;repeat apply TW.seq
 refine dk 6 [4] [.int .i64 rvalue] [] [] (f2 hh (arIx h_ g2)) ?_ trivial ?_
 ·exact ⟨(zmi ax hx k i rvalue e3 ).call _,trivial⟩
 clear hh h;intro h hh;cases H;exact rt hh
def zh4 (k:Nat) (h_:Ar 10) (i:Int) (b:Int):Option (Ar 10):=(if (0:Int)≤i∧0<16 then (if (0:Int)≤(IntKind.i64.wrap (i / 16))∧(IntKind.i64.wrap (i / 16))<(10:Int) then ((zez k h_ i).bind fun rBit=>((zhj k i).bind fun rvalue=>some (h_.set (IntKind.i64.wrap (i / 16)) (IntKind.i64.wrap ((gx h_.l (IntKind.i64.wrap (i / 16)))+(IntKind.i64.wrap ((IntKind.i64.wrap (b - rBit))*rvalue))))))) else none) else none)
set_option maxHeartbeats 8000000 in
theorem zls (ax:Axs) (hx:zcs ax) (k:Nat) (h_:Ar 10) (i:Int) (b:Int) (v:Ar 10) (H:zh4 k h_ i b=some v):Pure Tryz.prog (EE ax) [] 115 [.agg (h_.l.map (T.int .i64)),.int .i64 i,.int .i64 b] (.agg (v.l.map (T.int .i64))):=by
 rw [zh4] at H;refine en [.cell 6 39] 24 [0,1,2] (hx.no _ (by decide)) (fn115 ax) ?_;intro h hh;repeat apply TW.seq
 refine rk [1,2,3,6] [] hh ?_;clear hh h;intro h hh;obtain ⟨g1,H⟩:=isg H;obtain ⟨g2,H⟩:=isg H;obtain ⟨rBit,e3,H⟩:=zaf H;obtain ⟨rvalue,e4,H⟩:=zaf H;repeat apply TW.seq
 refine dk 13 [3,6] [.int .i64 rBit,.int .i64 rvalue] [] [] (f3 hh (arIx h_ g2) (ykm (k:=.i64) h_ (IntKind.i64.wrap ((gx h_.l (IntKind.i64.wrap (i / 16)))+(IntKind.i64.wrap ((IntKind.i64.wrap (b - rBit))*rvalue)))) g2)) ?_ trivial ?_
 ·exact ⟨(zdc ax hx k h_ i rBit e3 ).call _,(zmi ax hx k i rvalue e4 ).call _,trivial⟩
 clear hh h;intro h hh;repeat apply TW.seq
 refine rk [6] [] hh ?_;clear hh h;intro h hh;cases H;exact rtc hh
def zc2 (k:Nat) (m_:Pat):Nat→Int→(Ar 10)→Option (Ar 10)
 |0,_,_=>none
 |m+1,i,x=>(if i<160 then ((zez k m_.mask i).bind fun rBit=>(if rBit=1 then ((zez k m_.bits i).bind fun rBit2=>((zh4 k x i rBit2).bind fun rset=>zc2 k m_ m (IntKind.i64.wrap (i+1)) rset)) else zc2 k m_ m (IntKind.i64.wrap (i+1)) x)) else some x)
def zi0 (k:Nat) (m_:Pat) (h_:Ar 10):Option (Ar 10):=((zc2 k m_ k 0 h_:Option (Ar 10)).bind fun s_=>some s_)
set_option maxHeartbeats 8000000 in
theorem zvs (ax:Axs) (hx:zcs ax) (k:Nat) (m_:Pat) (h_:Ar 10) (v:Ar 10) (H:zi0 k m_ h_=some v):Pure Tryz.prog (EE ax) [] 61 [ePat m_,.agg (h_.l.map (T.int .i64))] (.agg (v.l.map (T.int .i64))):=by
 rw [zi0] at H;refine en [.cell 4 39] 23 [0,1] (hx.no _ (by decide)) (fn61 ax) ?_;intro h hh;repeat apply TW.seq
 refine rk [2,3,4] [] hh ?_;clear hh h;intro h hh;repeat apply TW.seq
 refine rk [2,3,4,5] [] hh ?_;clear hh h;intro h hh;obtain ⟨s_,H1,H⟩:=zaf H;repeat apply TW.seq
 refine cu [3,4] 3 (fun h bs=>(h 3=.ptr 1 0 10∧h 4=.ptr 2 0 10)∧bs=[.cells true 20 (m_.mask.l.map (T.int .i64)++(m_.bits.l.map (T.int .i64))),.cells true 10 (s_.l.map (T.int .i64)),.cells true 10 ((zA 10).l.map (T.int .i64))]) ?_ ?_
 ·skip;repeat apply TW.seq
  apply TW.block;repeat apply TW.seq
  refine TW.loopT [2,3,4,5] (fun m h bs=>∃ (i:Int) (x:Ar 10),zc2 k m_ m i x=some s_∧(h 2=.ptr 0 0 20∧h 3=.ptr 1 0 10∧h 4=.ptr 2 0 10∧h 5=.int .i64 i)∧bs=[.cells true 20 (m_.mask.l.map (T.int .i64)++(m_.bits.l.map (T.int .i64))),.cells true 10 (x.l.map (T.int .i64)),.cells true 10 ((zA 10).l.map (T.int .i64))]) ?_ k _ _ ?_;rotate_left
  ·exact ⟨0,h_,H1,kq hh,rfl⟩
  clear hh h H1;rintro m h bs ⟨i,x,H1,hh,rfl⟩;rcases m with _|m
  ·rw [zc2] at H1;cases H1
  rw [zc2] at H1;repeat apply TW.seq
  refine rk [2,3,4,5,7] [] hh ?_;clear hh h;intro h hh;rcases isp H1 with ⟨c1,H1⟩|⟨c1,H1⟩;rotate_left
  ·skip;repeat apply TW.seq
   refine cf (f2 hh (decide_eq_false c1)) ?_;refine xk ?_;cases H1;exact ce hh ⟨kq hh,rfl⟩
  repeat apply TW.seq
  refine ct (f2 hh (decide_eq_true c1)) ?_;repeat apply TW.seq
  refine sk ?_;repeat apply TW.seq
  apply TW.block;obtain ⟨rBit,e2,H1⟩:=zaf H1;repeat apply TW.seq
  refine rkc [2,3,4,5,14] [] [(.int .i64 rBit,stL [.cells true 20 (m_.mask.l.map (T.int .i64)++(m_.bits.l.map (T.int .i64))),.cells true 10 (x.l.map (T.int .i64)),.cells true 10 ((zA 10).l.map (T.int .i64))])] hh ?_ ?_
  ·exact ⟨za4.call ((zdc ax hx k m_.mask i rBit e2 ).call _),trivial⟩
  clear hh h;intro h hh;rcases isp H1 with ⟨c3,H1⟩|⟨c3,H1⟩;rotate_left
  ·skip;repeat apply TW.seq
   refine cf (f2 hh (decide_eq_false c3)) ?_;repeat apply TW.seq
   refine sk ?_;repeat apply TW.seq
   refine rk [2,3,4,5] [] hh ?_;clear hh h;intro h hh;exact rd m hh ⟨(IntKind.i64.wrap (i+1)),x,H1,kq hh,rfl⟩
  repeat apply TW.seq
  refine ct (f2 hh (decide_eq_true c3)) ?_;obtain ⟨rBit2,e4,H1⟩:=zaf H1;obtain ⟨rset,e5,H1⟩:=zaf H1;repeat apply TW.seq
  refine dk 6 [2,3,4,5] [.int .i64 rBit2] [] [(.agg (rset.l.map (T.int .i64)),stL [.cells true 20 (m_.mask.l.map (T.int .i64)++(m_.bits.l.map (T.int .i64))),.cells true 10 (x.l.map (T.int .i64)),.cells true 10 ((zA 10).l.map (T.int .i64))])] hh ?_ ?_ ?_
  ·exact ⟨(zdc ax hx k m_.bits i rBit2 e4 ).call _,trivial⟩
  ·exact ⟨za4.call ((zls ax hx k x i rBit2 rset e5 ).call _),trivial⟩
  clear hh h;intro h hh;repeat apply TW.seq
  refine rk [2,3,4,5] [] hh ?_;clear hh h;intro h hh;exact rd m hh ⟨(IntKind.i64.wrap (i+1)),rset,H1,kq hh,rfl⟩
 clear hh h;rintro h bs ⟨hh,rfl⟩;repeat apply TW.seq
 refine rk [4] [] hh ?_;clear hh h;intro h hh;cases H;exact rtc hh
end
section
open Go Go.RowKit
/-! bits of words -/
theorem zvg {a b:Nat} (ha:a<2 ^ 64) (hb:b<2 ^ 64) (i:Nat):(a - (a &&& b)).testBit i=(a.testBit i && !b.testBit i):=by
  rw [← zl6 64 ha hb,Nat.testBit_and,show 2 ^ 64 - 1 - b=2 ^ 64 - (b+1) by omega,Nat.testBit_two_pow_sub_succ hb];by_cases hi:i<64
  · simp [hi]
  · have:a.testBit i=false:=Nat.testBit_lt_two_pow (Nat.lt_of_lt_of_le ha (Nat.pow_le_pow_right (by decide) (by omega)));simp [this]
theorem zpe {a b:Nat} (ha:a<65536) (hb:b<65536) (h:∀ t,t<16→a.testBit t=b.testBit t):a=b:=by
  apply Nat.eq_of_testBit_eq;intro t;by_cases ht:t<16
  · exact h t ht
  · have e:65536≤2 ^ t:=Nat.pow_le_pow_right (n:=2) (by decide) (show 16≤t by omega);rw [Nat.testBit_lt_two_pow (Nat.lt_of_lt_of_le ha e),Nat.testBit_lt_two_pow (Nat.lt_of_lt_of_le hb e)]
theorem zs3 {t s:Nat}:(2 ^ t).testBit s=decide (t=s):=Nat.testBit_two_pow
theorem ybg {w t:Nat} (hw:w<65536) (ht:t<16) (h:w.testBit t=false):w+2 ^ t=w ||| 2 ^ t:=by
  have hp:2 ^ t<65536:=Nat.pow_lt_pow_right (by decide) ht;have ho:w ||| 2 ^ t<2 ^ 16:=Nat.or_lt_two_pow hw hp
  have e1:(w ||| 2 ^ t) &&& 2 ^ t=2 ^ t:=by
    apply Nat.eq_of_testBit_eq;intro s;rw [Nat.testBit_and,Nat.testBit_or];cases (2 ^ t).testBit s<;>simp
  have e2:(w ||| 2 ^ t) - ((w ||| 2 ^ t) &&& 2 ^ t)=w:=by
    apply Nat.eq_of_testBit_eq;intro s;rw [zvg (by omega) (by omega),Nat.testBit_or,zs3];by_cases hs:t=s
    · subst hs;simp [h]
    · simp [hs]
  have e3:2 ^ t≤w ||| 2 ^ t:=Nat.right_le_or
  omega
theorem yg9 {w t:Nat} (hw:w<65536) (ht:t<16) (h:w.testBit t=true):2 ^ t≤w∧∀ s,(w - 2 ^ t).testBit s=(w.testBit s && !decide (t=s)):=by
  have hp:2 ^ t<65536:=Nat.pow_lt_pow_right (by decide) ht
  have e1:w &&& 2 ^ t=2 ^ t:=by
    apply Nat.eq_of_testBit_eq;intro s;rw [Nat.testBit_and,zs3];by_cases hs:t=s
    · subst hs;simp [h]
    · simp [hs]
  have h1:w &&& 2 ^ t≤w:=Nat.and_le_left;refine ⟨by omega,fun s=>?_⟩;have:=zvg (a:=w) (b:=2 ^ t) (by omega) (by omega) s;rw [e1,zs3] at this;exact this
/-! heads -/
def hw (h:Ar 10) (i:Nat):Nat:=(gx h.l (i:Int)).toNat
def hbit (h:Ar 10) (i:Nat):Bool:=(hw h (i / 16)).testBit (15 - i % 16)
theorem zb1 {h:Ar 10} (hr:zac h=true) {i:Nat} (hi:i<10):gx h.l (i:Int)=(hw h i:Int)∧hw h i<65536:=by
  obtain ⟨n,h1,h2⟩:=zvy hr hi;unfold hw;rw [h1];exact ⟨by simp,by simpa using h2⟩
theorem z43 (j t:Nat) (hj:j<10) (ht:t<16):(16*j+(15 - t)) / 16=j∧15 - (16*j+(15 - t)) % 16=t∧16*j+(15 - t)<160:=by omega
theorem zin (h:Ar 10) {j t:Nat} (hj:j<10) (ht:t<16):hbit h (16*j+(15 - t))=(hw h j).testBit t:=by
  obtain ⟨a,b,_⟩:=z43 j t hj ht;unfold hbit;rw [a,b]
theorem ykl {n:Nat} {a b:Ar n} (h:∀ j:Nat,j<n→gx a.l (j:Int)=gx b.l (j:Int)):a=b:=by
  apply Ar.ext';apply List.ext_getElem (by rw [a.h,b.h]);intro i h1 h2;have:=h i (by rw [← a.h];exact h1)
  rwa [zf4 h1,zf4 h2] at this
theorem z31 {a b:Ar 10} (ha:zac a=true) (hb:zac b=true) (h:∀ i,i<160→hbit a i=hbit b i):a=b:=by
  apply ykl;intro j hj;obtain ⟨a1,a2⟩:=zb1 ha hj;obtain ⟨b1,b2⟩:=zb1 hb hj;rw [a1,b1,zpe a2 b2 fun t ht=>by rw [← zin a hj ht,← zin b hj ht];exact h _ (z43 j t hj ht).2.2]
theorem zh5 {h:Ar 10} (hh:∀ j:Nat,j<10→∃ n:Nat,gx h.l (j:Int)=(n:Int)∧n<65536):zac h=true:=by
  unfold zac;rw [zsb];intro j hj;have hj':j<10:=by rw [← h.h];exact hj
  obtain ⟨n,h1,h2⟩:=hh j hj';rw [zf4 hj] at h1;rw [h1];exact decide_eq_true (by omega)
/-! one bit -/
theorem zsy {k i:Nat} (hi:i<160) (hk:16<k):zhj k (i:Int)=some ((2 ^ (15 - i % 16):Nat):Int):=by
  have key:∀ m kk,kk≤i % 16→i % 16 - kk<m→zd0 k (i:Int) m ((2 ^ (15 - kk):Nat):Int) (kk:Int)=some ((2 ^ (15 - i % 16):Nat):Int):=by
    intro m
    induction m with
    |zero=>intro kk h1 h2;omega
    |succ m ih =>
      intro kk h1 h2;rw [zd0,if_pos ⟨by omega,by decide⟩];by_cases c:kk<i % 16
      · have hp:2 ^ (15 - kk)=2 ^ (15 - (kk+1))*2:=by rw [← Nat.pow_succ];congr 1;omega
        have hb:2 ^ (15 - kk)≤2 ^ 15:=Nat.pow_le_pow_right (by decide) (by omega);rw [if_pos (by omega),if_pos ⟨by omega,by decide⟩,zce kk (by omega)];have e:IntKind.i64.wrap (((2 ^ (15 - kk):Nat):Int) / 2)=((2 ^ (15 - (kk+1)):Nat):Int):=by rw [wr64 (by omega)];omega
        rw [e];exact ih (kk+1) (by omega) (by omega)
      · rw [if_neg (by omega),show kk=i % 16 by omega]
  unfold zhj;have:=key k 0 (Nat.zero_le _) (by omega);rw [show ((2 ^ (15 - 0):Nat):Int)=32768 by decide] at this;rw [show (0:Int)=((0:Nat):Int) from rfl,this];rfl
theorem zva {i:Nat} (hi:i<160):IntKind.i64.wrap ((i:Int) / 16)=((i / 16:Nat):Int):=by rw [wr64 (by omega)];omega
theorem zie {k i:Nat} {h:Ar 10} (hr:zac h=true) (hi:i<160) (hk:16<k):zez k h (i:Int)=some ((hbit h i).toNat:Int):=by
  unfold zez;obtain ⟨a1,a2⟩:=zb1 hr (i:=i / 16) (by omega);rw [if_pos ⟨by omega,by decide⟩,zva hi,if_pos ⟨by omega,by omega⟩,zsy hi hk,Option.bind_some,a1];have hp:0<2 ^ (15 - i % 16):=Nat.two_pow_pos _;rw [if_pos ⟨by omega,by omega⟩]
  have e:IntKind.i64.wrap ((hw h (i / 16):Int) / ((2 ^ (15 - i % 16):Nat):Int))=((hw h (i / 16) / 2 ^ (15 - i % 16):Nat):Int):=by
    have:hw h (i / 16) / 2 ^ (15 - i % 16)≤hw h (i / 16):=Nat.div_le_self _ _;rw [← Int.natCast_ediv];generalize hw h (i / 16) / 2 ^ (15 - i % 16)=q at *;rw [wr64 (by omega)]
  rw [e];unfold hbit;rw [Nat.testBit_eq_decide_div_mod_eq];generalize hw h (i / 16) / 2 ^ (15 - i % 16)=q at *;rw [if_pos ⟨by omega,by decide⟩];congr 1;by_cases c:q % 2=1
  · rw [decide_eq_true c];simp only [Bool.toNat_true];omega
  · rw [decide_eq_false c];simp only [Bool.toNat_false];omega
/-! matching -/
def za5 (p:Pat) (h:Ar 10):Bool:=(List.range 160).all fun i=>!hbit p.mask i || (hbit p.bits i == hbit h i)
theorem za1 {p:Pat} {h:Ar 10}:za5 p h=true↔∀ i,i<160→hbit p.mask i=true→hbit p.bits i=hbit h i:=by
  unfold za5;rw [List.all_eq_true];constructor
  · intro hh i hi hm;have:=hh i (List.mem_range.2 hi);rw [hm] at this;simpa using this
  · intro hh i hi;have:=hh i (List.mem_range.1 hi)
    cases hm:hbit p.mask i with
    |false=>rfl
    |true=>simpa using this hm
theorem zst {b h m:Nat} (hb:b<65536) (hh:h<65536) (hm:m<65536):(b ^^^ h) &&& m=0↔∀ t,t<16→m.testBit t=true→b.testBit t=h.testBit t:=by
  constructor
  · intro h0 t ht h1;have:=congrArg (fun x=>Nat.testBit x t) h0;simp only [Nat.testBit_and,Nat.testBit_xor,Nat.zero_testBit,h1,Bool.and_true] at this;revert this;cases b.testBit t<;>cases h.testBit t<;>simp
  · intro h0;apply zpe (Nat.lt_of_le_of_lt Nat.and_le_right hm) (by decide);intro t ht;simp only [Nat.testBit_and,Nat.testBit_xor,Nat.zero_testBit]
    cases h1:m.testBit t with
    |false=>simp
    |true=>rw [h0 t ht h1];simp
theorem zam {p:Pat}:zag p=true↔zac p.mask=true∧zac p.bits=true∧∀ i,i<160→hbit p.bits i=true→hbit p.mask i=true:=by
  unfold zag
  simp only [Bool.and_eq_true];refine and_congr_right fun hm=>and_congr_right fun hb=>?_;unfold zvb;rw [List.all_eq_true]
  have key:∀ j:Nat,j<10→(decide (iAnd .i64 (gx p.bits.l (j:Int)) (gx p.mask.l (j:Int))=gx p.bits.l (j:Int))=true↔∀ t,t<16→(hw p.bits j).testBit t=true→(hw p.mask j).testBit t=true):=by
    intro j hj;obtain ⟨a1,a2⟩:=zb1 hb hj;obtain ⟨b1,b2⟩:=zb1 hm hj;rw [a1,b1,zwp (by omega) (by omega),decide_eq_true_eq];constructor
    · intro h t ht h1;have h':hw p.bits j &&& hw p.mask j=hw p.bits j:=by omega
      rw [← h',Nat.testBit_and] at h1;simp only [Bool.and_eq_true] at h1;exact h1.2
    · intro h;congr 1;apply zpe (Nat.lt_of_le_of_lt Nat.and_le_left a2) a2;intro t ht;rw [Nat.testBit_and]
      cases h1:(hw p.bits j).testBit t with
      |false=>rfl
      |true=>rw [h t ht h1];rfl
  constructor
  · intro h i hi h1;have:=(key (i / 16) (by omega)).1 (h _ (List.mem_range.2 (by omega))) (15 - i % 16) (by omega);exact this h1
  · intro h j hj;have hj':=List.mem_range.1 hj
    exact (key j hj').2 fun t ht h1=>by
      rw [← zin p.mask hj' ht];exact h _ (z43 j t hj' ht).2.2 (by rw [zin p.bits hj' ht];exact h1)
theorem yho {a:Nat} (h:a<160):(a:Int)<160:=by omega
theorem z4z {a b:Bool}:((a.toNat:Int)≠(b.toNat:Int))↔a≠b:=by cases a<;>cases b<;>decide
theorem znk {a:Bool}:((a.toNat:Int)=1)↔a=true:=by cases a<;>decide
/-! rewriting -/
def ybn (m:Pat) (h x:Ar 10):Prop:=zac x=true∧∀ i,i<160→hbit x i=if hbit m.mask i=true then hbit m.bits i else hbit h i
theorem zgl {n:Nat} {a:Ar n} {i:Nat} (v:Int) (hi:i<n):gx (a.set (i:Int) v).l (i:Int)=v:=by
  show (a.l.set i v).getD i default=v;rw [List.getD_eq_getElem?_getD,List.getElem?_set_self (by rw [a.h];exact hi)];rfl
theorem zja {n:Nat} {a:Ar n} {i j:Nat} (v:Int) (hj:j<n) (h:i≠j):gx (a.set (i:Int) v).l (j:Int)=gx a.l (j:Int):=by
  show (a.l.set i v).getD j default=a.l.getD j default;rw [List.getD_eq_getElem?_getD,List.getD_eq_getElem?_getD,List.getElem?_set_ne h]
theorem zvu {k i:Nat} {h:Ar 10} {b:Bool} (hr:zac h=true) (hi:i<160) (hk:16<k):∃ x,zh4 k h (i:Int) (b.toNat:Int)=some x∧zac x=true∧∀ j,j<160→hbit x j=if j=i then b else hbit h j:=by
  unfold zh4;obtain ⟨a1,a2⟩:=zb1 hr (i:=i / 16) (by omega);rw [if_pos ⟨by omega,by decide⟩,zva hi,if_pos ⟨by omega,by omega⟩,zie hr hi hk,Option.bind_some,zsy hi hk,Option.bind_some,a1];have ht:15 - i % 16<16:=by omega
  have hp:2 ^ (15 - i % 16)<65536:=Nat.pow_lt_pow_right (by decide) ht;have hpp:0<2 ^ (15 - i % 16):=Nat.two_pow_pos _;have hi10:i / 16<10:=by omega
  -- the new word
  have hnew:∃ w:Nat,IntKind.i64.wrap ((hw h (i / 16):Int)+IntKind.i64.wrap (IntKind.i64.wrap ((b.toNat:Int) - ((hbit h i).toNat:Int))*((2 ^ (15 - i % 16):Nat):Int)))=(w:Int)∧w<65536∧∀ s,w.testBit s=if s=15 - i % 16 then b else (hw h (i / 16)).testBit s:=by
    cases hb:hbit h i with
    |false =>
      have hb':(hw h (i / 16)).testBit (15 - i % 16)=false:=hb
      cases b with
      |false =>
        refine ⟨hw h (i / 16),?_,a2,fun s=>?_⟩
        · simp only [Bool.toNat_false,Int.natCast_zero,Int.sub_self];rw [wr64 (n:=0) (by omega),Int.zero_mul,wr64 (n:=0) (by omega),Int.add_zero,wr64 (by omega)]
        · by_cases hs:s=15 - i % 16
          · rw [if_pos hs,hs,hb']
          · rw [if_neg hs]
      |true =>
        refine ⟨hw h (i / 16)+2 ^ (15 - i % 16),?_,?_,fun s=>?_⟩
        · simp only [Bool.toNat_true,Bool.toNat_false];rw [wr64 (n:=((1:Nat):Int) - ((0:Nat):Int)) (by omega),show ((1:Nat):Int) - ((0:Nat):Int)=1 by omega,Int.one_mul,wr64 (n:=((2 ^ (15 - i % 16):Nat):Int)) (by omega),wr64 (by omega)];omega
        · rw [ybg a2 ht hb'];exact Nat.or_lt_two_pow (n:=16) a2 hp
        · rw [ybg a2 ht hb',Nat.testBit_or,zs3];by_cases hs:s=15 - i % 16
          · rw [if_pos hs];simp [hs]
          · rw [if_neg hs];simp [Ne.symm hs]
    |true =>
      have hb':(hw h (i / 16)).testBit (15 - i % 16)=true:=hb;obtain ⟨g1,g2⟩:=yg9 a2 ht hb'
      cases b with
      |true =>
        refine ⟨hw h (i / 16),?_,a2,fun s=>?_⟩
        · simp only [Int.sub_self];rw [wr64 (n:=0) (by omega),Int.zero_mul,wr64 (n:=0) (by omega),Int.add_zero,wr64 (by omega)]
        · by_cases hs:s=15 - i % 16
          · rw [if_pos hs,hs,hb']
          · rw [if_neg hs]
      |false =>
        refine ⟨hw h (i / 16) - 2 ^ (15 - i % 16),?_,by omega,fun s=>?_⟩
        · simp only [Bool.toNat_true,Bool.toNat_false];rw [wr64 (n:=((0:Nat):Int) - ((1:Nat):Int)) (by omega),show ((0:Nat):Int) - ((1:Nat):Int)=-1 by omega,wr64 (n:=-1*((2 ^ (15 - i % 16):Nat):Int)) (by omega),wr64 (by omega)];omega
        · rw [g2];by_cases hs:s=15 - i % 16
          · rw [if_pos hs];simp [hs]
          · rw [if_neg hs];simp [Ne.symm hs]
  obtain ⟨w,e1,e2,e3⟩:=hnew;refine ⟨_,rfl,?_,?_⟩
  · rw [e1];refine zh5 fun j hj=>?_;by_cases hij:i / 16=j
    · subst hij;exact ⟨w,zgl _ hj,e2⟩
    · rw [zja _ hj hij];exact ⟨_,(zb1 hr hj).1,(zb1 hr hj).2⟩
  · intro j hj;rw [e1];unfold hbit;have hj10:j / 16<10:=by omega
    by_cases hij:i / 16=j / 16
    · have:hw (h.set ((i / 16:Nat):Int) (w:Int)) (j / 16)=w:=by
        unfold hw;rw [← hij,zgl _ hi10];rfl
      rw [this,e3,← hij];by_cases hm:j=i
      · subst hm;rw [if_pos rfl,if_pos rfl]
      · rw [if_neg hm,if_neg (by omega)]
    · have:hw (h.set ((i / 16:Nat):Int) (w:Int)) (j / 16)=hw h (j / 16):=by
        unfold hw;rw [zja _ hj10 hij]
      rw [this,if_neg (fun hm=>hij (by rw [hm]))]
theorem z8h {k:Nat} {m:Pat} {h:Ar 10} (hp:zag m=true) (hh:zac h=true) (hk:160<k):∃ x,zi0 k m h=some x∧ybn m h x:=by
  obtain ⟨pm,pb,pw⟩:=zam.1 hp
  have key:∀ fu i (x:Ar 10),i≤160→160 - i<fu→zac x=true→(∀ j,j<160→hbit x j=if j<i∧hbit m.mask j=true then hbit m.bits j else hbit h j)→∃ y,zc2 k m fu (i:Int) x=some y∧ybn m h y:=by
    intro fu
    induction fu with
    |zero=>intro i x h1 h2;omega
    |succ fu ih =>
      intro i x h1 h2 h3 h4;rw [zc2];by_cases c:i<160
      · rw [if_pos (yho c),zie pm c (by omega),Option.bind_some,zie pb c (by omega),zce i (by omega)];by_cases d:hbit m.mask i=true
        · rw [if_pos (znk.2 d),Option.bind_some];obtain ⟨y,s1,s2,s3⟩:=zvu (b:=hbit m.bits i) h3 c (show 16<k by omega);rw [s1,Option.bind_some];refine ih (i+1) y (by omega) (by omega) s2 fun j hj=>?_;rw [s3 j hj];by_cases hji:j=i
          · subst hji;rw [if_pos rfl,if_pos ⟨by omega,d⟩]
          · rw [if_neg hji,h4 j hj];by_cases hq:j<i∧hbit m.mask j=true
            · rw [if_pos hq,if_pos ⟨by omega,hq.2⟩]
            · rw [if_neg hq,if_neg (fun hh2=>hq ⟨by omega,hh2.2⟩)]
        · rw [if_neg (fun hq=>d (znk.1 hq))];refine ih (i+1) x (by omega) (by omega) h3 fun j hj=>?_;rw [h4 j hj];by_cases hji:j=i
          · subst hji;rw [if_neg (fun hq=>d hq.2),if_neg (fun hq=>d hq.2)]
          · by_cases hq:j<i∧hbit m.mask j=true
            · rw [if_pos hq,if_pos ⟨by omega,hq.2⟩]
            · rw [if_neg hq,if_neg (fun hh2=>hq ⟨by omega,hh2.2⟩)]
      · obtain rfl:i=160:=by omega
        rw [if_neg (by decide)];refine ⟨x,rfl,h3,fun j hj=>?_⟩;rw [h4 j hj];by_cases hq:hbit m.mask j=true
        · rw [if_pos ⟨hj,hq⟩,if_pos hq]
        · rw [if_neg (fun hh2=>hq hh2.2),if_neg hq]
  obtain ⟨y,h1,h2⟩:=key k 0 h (by omega) (by omega) hh fun j hj=>by rw [if_neg (fun hq=>Nat.not_lt_zero _ hq.1)]
  refine ⟨y,?_,h2⟩;unfold zi0;rw [show (0:Int)=((0:Nat):Int) from rfl,h1];rfl
end
section
open Go Go.RowKit
section
variable {GL:List (Nat×List Value)} {A A' A2:Nat→Prop} {β β' β2:Bx} {S S' S2:TS} {s s' s2:CS} {P:Program} {Γ:Env} {N:Nat} {h h' h2:Nat→T} {Q R:Exit→(Nat→T)→TS→Prop}
def KeyT (i:It) (GL:List (Nat×List Value)) (caps:List T) (k:List Nat):Prop :=
  ∀ (A:Nat→Prop) (β:Bx) (S:TS) (s:CS) (vs:List Value),TRel GL A β S s→VL A β (zaa s.obj) caps vs→∃ s',i.key vs s=some (k,s')∧TRel GL A β S s'∧Stp A β s A β s'∧s'.obj=s.obj
def yb7:(Nat→T)→List Tmp→List T→Nat→T
  |h,p :: ps,t :: ts=>yb7 (tupd h p t) ps ts
  |h,_,_=>h
theorem z2x {g:Nat→Fam}:∀ {ps:List Tmp} {ts:List T} {vs:List Value} {h:Nat→T} {fr:Fr},(∀ p,p∈ps→p<N)→VL A β g ts vs→FrOk A β g N h fr→FrOk A β g N (yb7 h ps ts) (zms fr ps vs)
  |[],ts,vs,h,fr,_,_,hF=>hF
  |p :: ps,_,_,h,fr,hp,.nil,hF=>hF
  |p :: ps,_,_,h,fr,hp,.cons h1 h2,hF=>z2x (ps:=ps) (fun q hq=>hp q (.tail _ hq)) h2 (hF.put (d:=some p) (fun t ht=>by cases ht;exact hp p (.head _)) h1)
theorem zqk:∀ l:List Nat,zol l l=true
  |[]=>rfl
  |a :: l=>by simp only [zol,Nat.beq_refl,zqk l,Bool.and_self]
def RQ (I:List (List T)→TS→Prop) (rest:List (List T)) (h:Nat→T) (Q:Exit→(Nat→T)→TS→Prop):Exit→(Nat→T)→TS→Prop:=fun e _ S'=>match e with
  |.normal=>I rest S'
  |.ret=>Q .ret h S'
  |.exit j=>Q (.exit j) h S'
  |_=>False
theorem z78 {i:It} {caps:List T} {k:List Nat} {ps:List Tmp} {a b:Code} (hk:KeyT i GL caps k) (hps:∀ p,p∈ps→p<N) (I:List (List T)→TS→Prop)
    (hstep:∀ x rest S,I (x :: rest) S→x.length=ps.length∧TW P Γ GL N a (yb7 h ps x) S fun e h1 S1=>e=.normal∧TW P Γ GL N b h1 S1 (RQ I rest h Q)) (hend:∀ S,I [] S→Q .normal h S) :
    ∀ (X:List (List T)) (xs:List (List Value)) (S:TS) (A:Nat→Prop) (β:Bx) (s:CS) (fr:Fr) (vcaps:List Value),X.length=xs.length→(∀ (j:Nat) (x:List T) (v:List Value),X[j]?=some x→xs[j]?=some v→∀ (A:Nat→Prop) (β:Bx) (g:Nat→Fam),VL A β g x v) →
      FrOk A β (zaa s.obj) N h fr→TRel GL A β S s→VL A β (zaa s.obj) caps vcaps→I X S →
      ∃ n e s2,zed (cm P Γ n) (i.key vcaps) k ps a b fr xs s=some (e,s2)∧∃ S2,Left GL A β s N fr s2 h S2∧Q e h S2:=by
  intro X
  induction X with
  |nil =>
    intro xs S A β s fr vcaps hlen hX hF hT hc hI
    cases xs with
    |cons _ _=>simp at hlen
    |nil=>exact ⟨0,.normal,s,rfl,S,Left.refl hF hT,hend S hI⟩
  |cons x X ih =>
    intro xs S A β s fr vcaps hlen hX hF hT hc hI
    cases xs with
    |nil=>simp at hlen
    |cons v xs =>
      obtain ⟨hl,hw⟩:=hstep x X S hI;have hv:=hX 0 x v rfl rfl;have hvl:v.length=ps.length:=by rw [← (hv A β (zaa s.obj)).len,hl]
      obtain ⟨e1,fr1,s1,⟨n1,ev1⟩,h1,S1,⟨A1,β1,f1,t1,p1⟩,rfl,hb⟩:=hw A β _ s (z2x hps (hv A β (zaa s.obj)) hF) hT;obtain ⟨e2,fr2,s2,⟨n2,ev2⟩,h2,S2,⟨A2,β2,f2,t2,p2⟩,hq⟩:=hb A1 β1 fr1 s1 f1 t1;have p12:=p1.trans hT.le p2;have fr12:FrOk A2 β2 (zaa s2.obj) N h fr:=hF.mono p12.sub (p12.old hT) p12.bx
      have fin:∀ e:Exit,(e=.ret∨∃ j,e=.exit j)→e2=e→∃ n e3 s3,zed (cm P Γ n) (i.key vcaps) k ps a b fr (v :: xs) s=some (e3,s3)∧∃ S3,Left GL A β s N fr s3 h S3∧Q e3 h S3:=by
        rintro e he rfl;refine ⟨max n1 n2,e2,s2,?_,S2,⟨A2,β2,fr12,t2,p12⟩,?_⟩
        · rw [zed,zg9 hvl,za2,zjv (Nat.le_max_left n1 n2) ev1];simp only;rw [zjv (Nat.le_max_right n1 n2) ev2];rcases he with rfl|⟨j,rfl⟩<;>rfl
        · rcases he with rfl|⟨j,rfl⟩<;>exact hq
      cases e2 with
      |ret=>exact fin _ (.inl rfl) rfl
      |exit j=>exact fin _ (.inr ⟨j,rfl⟩) rfl
      |normal =>
        obtain ⟨s3,k1,k2,k3,k4⟩:=hk A2 β2 S2 s2 vcaps t2 (p12.vl hT hc);have p13:=p12.trans hT.le k3;obtain ⟨n3,e4,s4,r1,S4,⟨A4,β4,f4,t4,p4⟩,q4⟩:=ih xs S2 A2 β2 s3 fr vcaps (by simpa using hlen) (fun j y w hy hw=>hX (j+1) y w (by simpa using hy) (by simpa using hw)) (by rw [k4];exact fr12) k2 (by rw [k4];exact p12.vl hT hc) hq;refine ⟨max (max n1 n2) n3,e4,s4,?_,S4,⟨A4,β4,f4,t4,p13.trans hT.le p4⟩,q4⟩;rw [zed,zg9 hvl,za2,zjv (Nat.le_trans (Nat.le_max_left n1 n2) (Nat.le_max_left _ n3)) ev1];simp only;rw [zjv (Nat.le_trans (Nat.le_max_right n1 n2) (Nat.le_max_left _ n3)) ev2];simp only;rw [k1];simp only;rw [zqk,za2];exact zqv (fun c fr s r hr=>zjv (Nat.le_max_right _ n3) hr) xs _ _ r1
      |goto _=>exact absurd hq fun x=>x
      |panic _=>exact absurd hq fun x=>x
      |outgrown=>exact absurd hq fun x=>x
theorem TW.range {i:It} {g:Operand} {gf:FuncId} {caps:List T} {k:List Nat} {ps:Array Tmp} {a b:Code} (X:List (List T)) (I:List (List T)→TS→Prop) (hg:zcx GL h g=.fn gf [] caps) (hit:Γ.it gf=some i) (hk:KeyT i GL caps k) (hps:∀ p,p∈ps.toList→p<N)
    (hlen:X.length=(i.xs k).length) (hX:∀ (j:Nat) (x:List T) (v:List Value),X[j]?=some x→(i.xs k)[j]?=some v→∀ (A:Nat→Prop) (β:Bx) (g:Nat→Fam),VL A β g x v)
    (h0:I X S) (hstep:∀ x rest S,I (x :: rest) S→x.length=ps.toList.length∧TW P Γ GL N a (yb7 h ps.toList x) S fun e h1 S1=>e=.normal∧TW P Γ GL N b h1 S1 (RQ I rest h Q)) (hend:∀ S,I [] S→Q .normal h S) :
    TW P Γ GL N (.rangeFunc g ps a b) h S Q:=fun A β fr s hF hT=>by
  have hv:=hF.eval hT g;rw [hg] at hv;generalize hgv:ze4 fr g=v at hv
  cases hv with
  |fn hva hvc =>
    cases hva;obtain ⟨s1,k1,k2,k3,k4⟩:=hk A β S s _ hT hvc;obtain ⟨n,e,s2,r1,S2,l2,q2⟩:=z78 hk hps I hstep hend X (i.xs k) S A β s1 fr _ hlen hX (by rw [k4];exact hF) k2 (by rw [k4];exact hvc) h0;refine ⟨e,fr,s2,⟨n+1,?_⟩,h,S2,Left.trans (h':=h) (fr':=fr) hT.le k3 l2,q2⟩;rw [cm,hgv];unfold zor;simp only [hit];rw [k1];simp only;rw [r1]
def RX (h:Nat→T) (Q:Exit→(Nat→T)→TS→Prop):Exit→(Nat→T)→TS→Prop:=fun e _ S'=>match e with
  |.ret=>Q .ret h S'
  |.exit j=>Q (.exit j) h S'
  |_=>False
theorem yio {j:Nat}:RX h Q (.exit j) h' S=Q (.exit j) h S:=rfl
theorem zv1 {n id:Nat} {ops:Array Oper} {dr:Bool} {fr fr':Fr} {e:Exit} (hc:cm P Γ n (.region id ops dr) fr s=some (e,fr',s')):e=.normal:=by
  cases n with
  |zero=>simp [cm] at hc
  |succ n =>
    have h' : (bif dr then match drawC P Γ (zcq P Γ n) ops.toList ops.toList fr s with
        |some (logs,fr,t)=>bif calm s.n ops.toList logs then some (Exit.normal,fr,t) else none
        |none=>none
      else match runC P Γ (zcq P Γ n) ops.toList ops.toList fr s with
        |some (fr,s)=>some (Exit.normal,fr,s)
        |none=>none)=some (e,fr',s'):=hc
    cases dr with
    |true =>
      simp only [cond_true] at h';split at h'
      · obtain ⟨_,h'⟩:=zco h';simp only [Option.some.injEq,Prod.mk.injEq] at h';exact h'.1.symm
      · simp at h'
    |false =>
      simp only [cond_false] at h';split at h'
      · simp only [Option.some.injEq,Prod.mk.injEq] at h';exact h'.1.symm
      · simp at h'
theorem TW.rng0 {i:It} {g:Operand} {gf:FuncId} {caps:List T} {k:List Nat} {ps:Array Tmp} {a b:Code} (hg:zcx GL h g=.fn gf [] caps) (hit:Γ.it gf=some i) (hk:KeyT i GL caps k) (hx:i.xs k=[]) (hq:Q .normal h S) :
    TW P Γ GL N (.rangeFunc g ps a b) h S Q:=fun A β fr s hF hT=>by
  have hv:=hF.eval hT g;rw [hg] at hv;generalize hgv:ze4 fr g=v at hv
  cases hv with
  |fn hva hvc =>
    cases hva;obtain ⟨s1,k1,k2,k3,k4⟩:=hk A β S s _ hT hvc;refine ⟨.normal,fr,s1,⟨1,?_⟩,h,S,⟨A,β,by rw [k4];exact hF,k2,k3⟩,hq⟩;rw [cm,hgv];unfold zor;simp only [hit];rw [k1];simp only;rw [hx];rfl
theorem TW.rng1 {i:It} {g:Operand} {gf:FuncId} {caps:List T} {k:List Nat} {p:Tmp} {id:Nat} {ops:Array Oper} {dr:Bool} {b:Code} (x:T) {v:Value} {rest:List (List Value)} (hg:zcx GL h g=.fn gf [] caps) (hit:Γ.it gf=some i) (hk:KeyT i GL caps k) (hp:p<N) (hx:i.xs k=[v] :: rest) (hv:∀ (A:Nat→Prop) (β:Bx) (g:Nat→Fam),VT A β g x v)
    (hb:TW P Γ GL N (.seq (.region id ops dr) b) (tupd h p x) S (RX h Q)):TW P Γ GL N (.rangeFunc g #[p] (.region id ops dr) b) h S Q:=fun A β fr s hF hT=>by
  have hgt:=hF.eval hT g;rw [hg] at hgt;generalize hgv:ze4 fr g=gv at hgt
  cases hgt with
  |fn hva hvc =>
    cases hva;obtain ⟨s1,k1,k2,k3,k4⟩:=hk A β S s _ hT hvc;have hF1:FrOk A β (zaa s1.obj) N h fr:=by rw [k4];exact hF
    obtain ⟨e,fr2,s2,⟨n,ev⟩,h2,S2,⟨A2,β2,f2,t2,p2⟩,hq⟩:=hb A β (fr.put p v) s1 (hF1.put (d:=some p) (fun t ht=>by cases ht;exact hp) (hv A β _)) k2;have fO:FrOk A2 β2 (zaa s2.obj) N h fr:=hF1.mono p2.sub (p2.old k2) p2.bx;have l2:Left GL A β s N fr s2 h S2:=Left.trans (h':=h) (fr':=fr) hT.le k3 ⟨A2,β2,fO,t2,p2⟩
    cases n with
    |zero=>simp [cm] at ev
    |succ n =>
      simp only [cm] at ev
      have fin:∀ e:Exit,(e=.ret∨∃ j,e=.exit j)→(∃ fr1 s3,cm P Γ n (.region id ops dr) (fr.put p v) s1=some (.normal,fr1,s3)∧cm P Γ n b fr1 s3=some (e,fr2,s2))→Q e h S2→W P Γ (.rangeFunc g #[p] (.region id ops dr) b) fr s fun e fr' s'=>∃ h' S',Left GL A β s N fr' s' h' S'∧Q e h' S':=by
        rintro e he ⟨fr1,s3,e1,e2⟩ hQ
        have hr:∀ key,zed (cm P Γ n) key k [p] (.region id ops dr) b fr ([v] :: rest) s1=some (e,s2):=by
          intro key;rw [zed,show Nat.beq [v].length [p].length=true from rfl,za2,show zms fr [p] [v]=fr.put p v from rfl,e1];simp only;rw [e2];rcases he with rfl|⟨j,rfl⟩<;>rfl
        refine ⟨e,fr,s2,⟨n+1,?_⟩,h,S2,l2,hQ⟩;rw [cm,hgv];unfold zor;simp only [hit];rw [k1];simp only;rw [hx]
        first
          |rw [hr]
          |(rw [show (#[p]:Array Tmp).toList=[p] from rfl,hr])
      have step:∃ fr1 s3,cm P Γ n (.region id ops dr) (fr.put p v) s1=some (.normal,fr1,s3)∧cm P Γ n b fr1 s3=some (e,fr2,s2):=by
        cases hr:cm P Γ n (.region id ops dr) (fr.put p v) s1 with
        |none=>rw [hr] at ev;simp at ev
        |some q =>
          obtain ⟨e1,fr1,s3⟩:=q;have:=zv1 hr;subst this;rw [hr] at ev;exact ⟨fr1,s3,rfl,ev⟩
      cases e with
      |ret=>exact fin _ (.inl rfl) step hq
      |exit j=>exact fin _ (.inr ⟨j,rfl⟩) step hq
      |normal=>exact absurd hq fun x=>x
      |goto _=>exact absurd hq fun x=>x
      |panic _=>exact absurd hq fun x=>x
      |outgrown=>exact absurd hq fun x=>x
end
end
section
open Go Go.RowKit
set_option maxRecDepth 100000
theorem z8t (ax:Axs) (hx:NoAx ax) (q p:Pat):Pure Tryz.prog (EE ax) [] 119 [ePat q,ePat p] (.fn 140 [] [.cp (q.mask.l.map (T.int .i64)++(q.bits.l.map (T.int .i64))),.cp (p.mask.l.map (T.int .i64)++(p.bits.l.map (T.int .i64)))]):=by
  refine en [.tmp 4] 6 [0,1] (hx.no _ (by decide)) (fn119 ax) ?_ (hv:=by simp only [T.ids,T.idsL,zak,ze7,Bool.and_self]);intro h hh;repeat apply TW.seq
  refine rk [2,3] [] hh ?_;clear hh h;intro h hh;refine zk 2 0 20 true (q.mask.l.map (T.int .i64)++(q.bits.l.map (T.int .i64))) [2,3] hh ?_;clear hh h;intro h hh;refine zk 3 1 20 true (p.mask.l.map (T.int .i64)++(p.bits.l.map (T.int .i64))) [2,3] hh ?_;clear hh h;intro h hh;repeat apply TW.seq
  refine rk [4] [] hh ?_;clear hh h;intro h hh;exact rt hh
def zhc (a:Ar 10):List Nat:=a.l.map Int.toNat
def natM (a:Ar 10):Prop:=∀ x,x∈a.l→0≤x∧x<9223372036854775808
instance (a:Ar 10):Decidable (natM a):=by unfold natM;infer_instance
def zso:Nat→Nat→List Nat
  |0,_=>[]
  |f+1,w=>if w=0 then [] else (15 - Nat.log2 w) :: zso f (w - 2 ^ Nat.log2 w)
def zpc:Nat→List Nat→List Nat→List Nat
  |i,a :: l,b :: m=>(zso 17 ((a - (a &&& b)) % 65536)).map (fun x=>16*i+x)++zpc (i+1) l m
  |_,_,_=>[]
def z5s (q p:Ar 10):List Nat:=zpc 0 (zhc q) (zhc p)
theorem z42:∀ (f w:Nat),zsa f w=zso f w
  |0,w=>by unfold zsa zso;rfl
  |f+1,w=>by
    rw [zsa,zso,zbp,← z42 f];by_cases h:w=0
    · rw [if_pos h,if_pos (by rw [h];rfl)]
    · rw [if_neg h,if_neg (by intro q;exact h (Nat.eq_of_beq_eq_true q))];rfl
theorem z24:∀ (i:Nat) (l m:List Nat),zlx i l m=zpc i l m
  |i,a :: l,b :: m=>by
    rw [zlx,zpc,← z24,z42];rfl
  |_,[],m=>by cases m<;>(unfold zlx zpc;rfl)
  |_,_ :: _,[]=>by unfold zlx zpc;rfl
theorem zt0 {A:Nat→Prop} {β:Bx} {g:Nat→Fam}:∀ (l:List Int) (r:List T) (cs:List Value),(∀ x,x∈l→0≤x∧x<9223372036854775808)→VL A β g (l.map (T.int .i64)++r) cs→zgf l.length cs=some (l.map Int.toNat)
  |[],r,cs,_,_=>by unfold zgf;rfl
  |x :: l,r,_,h,.cons h1 h2=>by
    cases h1;have hx:=h x (.head _);have ih:=zt0 l r _ (fun y hy=>h y (.tail _ hy)) h2;obtain ⟨n,rfl⟩:=Int.eq_ofNat_of_zero_le hx.1
    have e:i64N (.int .i64 (n:Int))=some n:=by
      unfold i64N;have h2:n<9223372036854775808:=by omega
      show sel (and (Nat.beq (ikN .i64) (ikN .i64)) (Nat.blt n 9223372036854775808)) (some n) none=some n;rw [Nat.beq_refl,zab.2 h2];rfl
    rw [List.length_cons,zgf,e,ih];rfl
theorem z5u:∀ {n:Nat} {l l2:List Value} {x:List Nat},zgf n l=some x→zgf n (l++l2)=some x:=by
  intro n
  induction n with
  |zero=>intro l l2 x hx;unfold zgf at hx ⊢;exact hx
  |succ n ih =>
    intro l l2 x hx
    cases l with
    |nil=>simp [zgf] at hx
    |cons y l =>
      rw [zgf] at hx;rw [List.cons_append,zgf]
      cases h1:i64N y with
      |none=>rw [h1] at hx;simp at hx
      |some m =>
        rw [h1] at hx
        cases h2:zgf n l with
        |none=>rw [h2] at hx;simp at hx
        |some q=>rw [h2] at hx;rw [ih (l2:=l2) h2];exact hx
theorem ztz {GL:List (Nat×List Value)} {A:Nat→Prop} {β:Bx} {S:TS} {s:CS} {a:Ar 10} {r:List T} {v:Value} (ha:natM a) (hT:TRel GL A β S s) (hv:VT A β (zaa s.obj) (.cp (a.l.map (T.int .i64)++r)) v) :
    ∃ s',zim 10 s v=some (zhc a,s')∧TRel GL A β S s'∧Stp A β s A β s'∧s'.obj=s.obj:=by
  cases hv with
  |@cp l f u off cs cs0 hA hr hl hc =>
    have e1:s.readRow (mkA f u off)=some (cs0,{ s with rd:=ins s.lim s.rd f }):=by
      unfold CS.readRow;have:zbf (zaa s.obj (mkA f u off).block).rows (Addr.ver (mkA f u off))=some cs0:=hr;rw [this];rfl
    have e2:zgf 10 (cs0.drop off)=some (zhc a):=by
      have k:=zt0 a.l r cs ha hl;rw [a.h] at k;rw [← List.take_append_drop cs.length (cs0.drop off),hc];exact z5u k
    refine ⟨{ s with rd:=ins s.lim s.rd f },?_,hT.read f,Stp.read (.inl hA),rfl⟩;unfold zim;simp only [e1];rw [show (mkA f u off).off=off from rfl,e2]
theorem z3l {a b:Ar 10} {r r2:List T} (ha:natM a) (hb:natM b):KeyT zh7 [] [.cp (a.l.map (T.int .i64)++r),.cp (b.l.map (T.int .i64)++r2)] (zhc a++zhc b):=by
  intro A β S s vs hT hv
  cases hv with
  |cons h1 h2 =>
    cases h2 with
    |cons h3 h4 =>
      cases h4;obtain ⟨s1,k1,k2,k3,k4⟩:=ztz ha hT h1;obtain ⟨s2,m1,m2,m3,m4⟩:=ztz hb k2 (by rw [k4];exact h3);refine ⟨s2,?_,m2,k3.trans hT.le m3,by rw [m4,k4]⟩
      show (match zim 10 s _ with
        |some (l,s1)=>(match zim 10 s1 _ with|some (m,s2)=>some (l++m,s2)|none=>none)
        |none=>none)=_
      rw [k1];simp only;rw [m1]
theorem z6o (a b:Ar 10):zh7.xs (zhc a++zhc b)=(z5s a b).map fun n=>[Value.int .i64 (.ofNat n)]:=by
  have e:(zhc a).length=10:=by unfold zhc;rw [List.length_map,a.h]
  show (zlx 0 ((zhc a++zhc b).take 10) ((zhc a++zhc b).drop 10)).map _=_;rw [← e,List.take_left,List.drop_left,z24];rfl
theorem z9n (ax:Axs):(EE ax).it 140=some zh7:=by
  show z5y Tryz.prog LL 140=some zh7
  kernel_rfl
def rngF {α:Type} (l:List Nat) (e:α) (f:Nat→α):α:=match l with | []=>e|x :: _=>f x
theorem isr {α:Type} {l:List Nat} {e:Option α} {f:Nat→Option α} {v:α} (h:rngF l e f=some v):(l=[]∧e=some v)∨∃ x r,l=x :: r∧f x=some v:=by
  cases l with
  |nil=>exact .inl ⟨rfl,h⟩
  |cons x r=>exact .inr ⟨x,r,rfl,h⟩
section
variable {ax:Axs} {N:Nat} {h:Nat→T} {bs:List Box} {Q:Exit→(Nat→T)→TS→Prop} {F R:Prop} {a b:Ar 10} {r r2:List T}
theorem rx0 {t : Tmp} {ps : Array Tmp} {c d : Code} (f : F) (k : R) (ha : natM a) (hb : natM b) (hl : z5s a b = []) (hg : F → h t = .fn 140 [] [.cp (a.l.map (T.int .i64) ++ r), .cp (b.l.map (T.int .i64) ++ r2)] := by intro q; first | (simp only [q]; done) | (simp only [q]; rfl))
    (hR:R→Q .normal h (stL bs):=by intro k;first | (simp (disch:=decide) only [onT,onTB,Nat.beq_refl,zjd,cond_true,cond_false];exact k)|exact k):TW Tryz.prog (EE ax) [] N (.rangeFunc (.tmp t) ps c d) h (stL bs) Q :=
  TW.rng0 (hg f) (z9n ax) (z3l ha hb) (by rw [z6o,hl];rfl) (hR k)
theorem rx1 {t p : Tmp} {id : Nat} {ops : Array Oper} {dr : Bool} {d : Code} {x : Nat} {l : List Nat} (f : F) (ha : natM a) (hb : natM b) (hl : z5s a b = x :: l) (k : TW Tryz.prog (EE ax) [] N (.seq (.region id ops dr) d) (tupd h p (.int .i64 (x : Int))) (stL bs) (RX h Q)) (hg : F → h t = .fn 140 [] [.cp (a.l.map (T.int .i64) ++ r), .cp (b.l.map (T.int .i64) ++ r2)] := by intro q; first | (simp only [q]; done) | (simp only [q]; rfl))
    (hp:p<N:=by decide):TW Tryz.prog (EE ax) [] N (.rangeFunc (.tmp t) #[p] (.region id ops dr) d) h (stL bs) Q :=
  TW.rng1 (.int .i64 (x:Int)) (hg f) (z9n ax) (z3l ha hb) hp (by rw [z6o,hl];rfl) (fun _ _ _=>.int _ _) k
theorem xr {i:Nat} {h1:Nat→T} {Q1:Exit→(Nat→T)→TS→Prop} (k:R) (hR:R→Q1 (.exit i) h1 (stL bs):=by intro k;first | (simp (disch:=decide) only [onT,onTB,yio,Nat.beq_refl,zjd,cond_true,cond_false];exact k)|exact k):TW Tryz.prog (EE ax) [] N (.exit i) h1 (stL bs) Q1:=TW.exit (hR k)
end
end
section
open Go Go.RowKit
set_option maxRecDepth 100000
def zjl (k:Nat) (p:Pat):Option (Ar 10):=some p.bits
set_option maxHeartbeats 8000000 in
theorem zsk (ax:Axs) (hx:zcs ax) (k:Nat) (p:Pat) (v:Ar 10) (H:zjl k p=some v):Pure Tryz.prog (EE ax) [] 120 [ePat p] (.agg (v.l.map (T.int .i64))):=by
 rw [zjl] at H;refine en [.cell 2 39] 5 [0] (hx.no _ (by decide)) (fn120 ax) ?_;intro h hh;repeat apply TW.seq
 refine rk [1,2] [] hh ?_;clear hh h;intro h hh;repeat apply TW.seq
 refine rk [2] [] hh ?_;clear hh h;intro h hh;cases H;exact rtc hh
def zfm (k:Nat) (i:Int):Option Int:=(if (0:Int)≤i∧0<16 then (if (0:Int)≤(IntKind.i64.wrap (15 - (i % 16))) then some (iShl .i64 1 (IntKind.i64.wrap (15 - (i % 16)))) else none) else none)
set_option maxHeartbeats 8000000 in
theorem zii (ax:Axs) (hx:zcs ax) (k:Nat) (i:Int) (v:Int) (H:zfm k i=some v):Pure Tryz.prog (EE ax) [] 142 [.int .i64 i] (.int .i64 v):=by
 rw [zfm] at H;refine en [.tmp 2] 7 [0] (hx.no _ (by decide)) (fn142 ax) ?_;intro h hh;repeat apply TW.seq
 refine rk [0] [] hh ?_;clear hh h;intro h hh;obtain ⟨g1,H⟩:=isg H;obtain ⟨g2,H⟩:=isg H;repeat apply TW.seq
 refine rk [2] [] (f2 hh (yjw (k:=.i64) (k':=.i64) (a:=1) g2)) ?_;clear hh h;intro h hh;cases H;exact rt hh
def zgw (k:Nat) (p:Pat) (i:Int) (b:Int):Option Pat:=(if (0:Int)≤i∧0<16 then (if (0:Int)≤(IntKind.i64.wrap (i / 16))∧(IntKind.i64.wrap (i / 16))<(10:Int) then ((zfm k i).bind fun rvalue=>((zfm k i).bind fun rvalue2=>(if b=1 then ((zfm k i).bind fun rvalue3=>some (⟨p.mask.set (IntKind.i64.wrap (i / 16)) (iOr .i64 (gx p.mask.l (IntKind.i64.wrap (i / 16))) rvalue),(p.bits.set (IntKind.i64.wrap (i / 16)) (zkq .i64 (gx p.bits.l (IntKind.i64.wrap (i / 16))) rvalue2)).set (IntKind.i64.wrap (i / 16)) (iOr .i64 (gx (p.bits.set (IntKind.i64.wrap (i / 16)) (zkq .i64 (gx p.bits.l (IntKind.i64.wrap (i / 16))) rvalue2)).l (IntKind.i64.wrap (i / 16))) rvalue3)⟩:Pat)) else some (⟨p.mask.set (IntKind.i64.wrap (i / 16)) (iOr .i64 (gx p.mask.l (IntKind.i64.wrap (i / 16))) rvalue),p.bits.set (IntKind.i64.wrap (i / 16)) (zkq .i64 (gx p.bits.l (IntKind.i64.wrap (i / 16))) rvalue2)⟩:Pat)))) else none) else none)
set_option maxHeartbeats 8000000 in
theorem zoj (ax:Axs) (hx:zcs ax) (k:Nat) (p:Pat) (i:Int) (b:Int) (v:Pat) (H:zgw k p i b=some v):Pure Tryz.prog (EE ax) [] 121 [ePat p,.int .i64 i,.int .i64 b] (ePat v):=by
 rw [zgw] at H;refine en [.cell 6 41] 40 [0,1,2] (hx.no _ (by decide)) (fn121 ax) ?_;intro h hh;repeat apply TW.seq
 refine rk [1,2,3,6] [] hh ?_;clear hh h;intro h hh;obtain ⟨g1,H⟩:=isg H;obtain ⟨g2,H⟩:=isg H;obtain ⟨rvalue,e3,H⟩:=zaf H;repeat apply TW.seq
 refine dk 7 [1,2,3,6] [.int .i64 rvalue] [] [] (f3 hh (zr3 (k:=.i64) (L:=(p.mask.l.map (T.int .i64)++(p.bits.l.map (T.int .i64)))) (r:=(p.bits.l.map (T.int .i64))) p.mask g2) (yeb (k:=.i64) (L:=(p.mask.l.map (T.int .i64)++(p.bits.l.map (T.int .i64)))) (r:=(p.bits.l.map (T.int .i64))) (L2:=((p.mask.set (IntKind.i64.wrap (i / 16)) (iOr .i64 (gx p.mask.l (IntKind.i64.wrap (i / 16))) rvalue)).l.map (T.int .i64)++(p.bits.l.map (T.int .i64)))) p.mask (iOr .i64 (gx p.mask.l (IntKind.i64.wrap (i / 16))) rvalue) g2)) ?_ trivial ?_
 ·exact ⟨(zii ax hx k i rvalue e3 ).call _,trivial⟩
 clear hh h;intro h hh;obtain ⟨rvalue2,e4,H⟩:=zaf H;repeat apply TW.seq
 refine dk 7 [1,2,3,6] [.int .i64 rvalue2] [] [] (f3 hh (zr4 (k:=.i64) (off:=10) (L:=((p.mask.set (IntKind.i64.wrap (i / 16)) (iOr .i64 (gx p.mask.l (IntKind.i64.wrap (i / 16))) rvalue)).l.map (T.int .i64)++(p.bits.l.map (T.int .i64)))) (r:=[]) p.bits g2) (setAt (k:=.i64) (off:=10) (L:=((p.mask.set (IntKind.i64.wrap (i / 16)) (iOr .i64 (gx p.mask.l (IntKind.i64.wrap (i / 16))) rvalue)).l.map (T.int .i64)++(p.bits.l.map (T.int .i64)))) (r:=[]) (L2:=((p.mask.set (IntKind.i64.wrap (i / 16)) (iOr .i64 (gx p.mask.l (IntKind.i64.wrap (i / 16))) rvalue)).l.map (T.int .i64)++((p.bits.set (IntKind.i64.wrap (i / 16)) (zkq .i64 (gx p.bits.l (IntKind.i64.wrap (i / 16))) rvalue2)).l.map (T.int .i64)))) (p:=((p.mask.set (IntKind.i64.wrap (i / 16)) (iOr .i64 (gx p.mask.l (IntKind.i64.wrap (i / 16))) rvalue)).l.map (T.int .i64))) p.bits (zkq .i64 (gx p.bits.l (IntKind.i64.wrap (i / 16))) rvalue2) g2)) ?_ trivial ?_
 ·exact ⟨(zii ax hx k i rvalue2 e4 ).call _,trivial⟩
 clear hh h;intro h hh;repeat apply TW.seq
 refine rk [1,3,6,28] [] hh ?_;clear hh h;intro h hh;rcases isp H with ⟨c5,H⟩|⟨c5,H⟩;rotate_left
 ·skip;repeat apply TW.seq
  refine cf (f2 hh (decide_eq_false c5)) ?_;repeat apply TW.seq
  refine sk ?_;repeat apply TW.seq
  refine rk [6] [] hh ?_;clear hh h;intro h hh;cases H;exact rtc hh
 repeat apply TW.seq
 refine ct (f2 hh (decide_eq_true c5)) ?_;obtain ⟨rvalue3,e6,H⟩:=zaf H;repeat apply TW.seq
 refine dk 7 [3,6] [.int .i64 rvalue3] [] [] (f3 hh (zr4 (k:=.i64) (off:=10) (L:=((p.mask.set (IntKind.i64.wrap (i / 16)) (iOr .i64 (gx p.mask.l (IntKind.i64.wrap (i / 16))) rvalue)).l.map (T.int .i64)++((p.bits.set (IntKind.i64.wrap (i / 16)) (zkq .i64 (gx p.bits.l (IntKind.i64.wrap (i / 16))) rvalue2)).l.map (T.int .i64)))) (r:=[]) (p.bits.set (IntKind.i64.wrap (i / 16)) (zkq .i64 (gx p.bits.l (IntKind.i64.wrap (i / 16))) rvalue2)) g2) (setAt (k:=.i64) (off:=10) (L:=((p.mask.set (IntKind.i64.wrap (i / 16)) (iOr .i64 (gx p.mask.l (IntKind.i64.wrap (i / 16))) rvalue)).l.map (T.int .i64)++((p.bits.set (IntKind.i64.wrap (i / 16)) (zkq .i64 (gx p.bits.l (IntKind.i64.wrap (i / 16))) rvalue2)).l.map (T.int .i64)))) (r:=[]) (L2:=((p.mask.set (IntKind.i64.wrap (i / 16)) (iOr .i64 (gx p.mask.l (IntKind.i64.wrap (i / 16))) rvalue)).l.map (T.int .i64)++(((p.bits.set (IntKind.i64.wrap (i / 16)) (zkq .i64 (gx p.bits.l (IntKind.i64.wrap (i / 16))) rvalue2)).set (IntKind.i64.wrap (i / 16)) (iOr .i64 (gx (p.bits.set (IntKind.i64.wrap (i / 16)) (zkq .i64 (gx p.bits.l (IntKind.i64.wrap (i / 16))) rvalue2)).l (IntKind.i64.wrap (i / 16))) rvalue3)).l.map (T.int .i64)))) (p:=((p.mask.set (IntKind.i64.wrap (i / 16)) (iOr .i64 (gx p.mask.l (IntKind.i64.wrap (i / 16))) rvalue)).l.map (T.int .i64))) (p.bits.set (IntKind.i64.wrap (i / 16)) (zkq .i64 (gx p.bits.l (IntKind.i64.wrap (i / 16))) rvalue2)) (iOr .i64 (gx (p.bits.set (IntKind.i64.wrap (i / 16)) (zkq .i64 (gx p.bits.l (IntKind.i64.wrap (i / 16))) rvalue2)).l (IntKind.i64.wrap (i / 16))) rvalue3) g2)) ?_ trivial ?_
 ·exact ⟨(zii ax hx k i rvalue3 e6 ).call _,trivial⟩
 clear hh h;intro h hh;repeat apply TW.seq
 refine rk [6] [] hh ?_;clear hh h;intro h hh;cases H;exact rtc hh
def zan (k:Nat) (p:Pat) (l:List Pat):Nat→Int→Int→(List Pat)→Nat→Option ((Ar 10×Bool) ⊕ (Int×List Pat×Nat))
 |0,_,_,_,_=>none
 |m+1,at_,i,l2,n=>(if i<(l.length:Int) then (if (0:Int)≤i∧i<(l.length:Int) then ((zd3 k p (gx l i)).bind fun rOverlap=>(if rOverlap=true then (if (n+1)*161≤1000000000 then (if natM ((gx l i).mask) then (if natM p.mask then (rngF (z5s ((gx l i).mask) p.mask) (if ((-1):Int)<0 then some (.inl ((zA 10),false)) else zan k p l m (min at_ (-1)) (IntKind.i64.wrap (i+1)) (l2++[(gx l i)]) (n+1)) (fun x=>(if (x:Int)<0 then some (.inl ((zA 10),false)) else zan k p l m (min at_ (x:Int)) (IntKind.i64.wrap (i+1)) (l2++[(gx l i)]) (n+1)))) else none) else none) else none) else zan k p l m at_ (IntKind.i64.wrap (i+1)) l2 n)) else none) else some (.inr (at_,l2,n)))
def zbh (k:Nat):Nat→Pat→(List Pat)→Option (Ar 10×Bool)
 |0,_,_=>none
 |m+1,p,l=>((zan k p l k 160 0 [] 0:Option ((Ar 10×Bool) ⊕ (Int×List Pat×Nat))).bind fun o=>Sum.elim (fun r=>some r) (fun s_=>(if (s_.2.2:Int)=0 then ((zjl k p).bind fun rLeast=>some (rLeast,true)) else ((zgw k p s_.1 0).bind fun rfix=>(if s_.2.1.length=s_.2.2 then ((zbh k m rfix s_.2.1).bind fun rb=>(if rb.2=true then some (rb.1,true) else ((zgw k p s_.1 1).bind fun rfix2=>((zbh k m rfix2 s_.2.1).bind fun rb2=>some (rb2.1,rb2.2))))) else none)))) o)
def zgj (k:Nat) (p:Pat) (l:List Pat):Option (Ar 10×Bool):=zbh k k p l
set_option maxHeartbeats 8000000 in
theorem zj6 (ax:Axs) (hx:zcs ax) (k:Nat):∀ (m:Nat) (p:Pat) (l:List Pat) (v:Ar 10×Bool) (H:zbh k m p l=some v),Call Tryz.prog (EE ax) [] 117 [ePat p,lPat l,.ptr 0 0 1] (stL [.cells true 1 [.fn 117 [] [.ptr 0 0 1]]]) (tupT [.agg (v.1.l.map (T.int .i64)),.bool v.2]) (stL [.cells true 1 [.fn 117 [] [.ptr 0 0 1]]]):=by
 intro m
 induction m with
 |zero=>intro p l v H;cases H
 |succ m ih =>
  intro p l v H;rw [zbh] at H;refine enB [.cell 5 39,.tmp 6] 65 [0,1,2] (hx.no _ (by decide)) (fn117 ax) ?_;intro h hh;repeat apply TW.seq
  refine rk [1,2,3,5] [] hh ?_;clear hh h;intro h hh;repeat apply TW.seq
  refine rk [1,2,3,5,7] [] hh ?_;clear hh h;intro h hh;refine vk 7 20 [1,2,3,5,7] hh ?_;clear hh h;intro h hh;repeat apply TW.seq
  refine rk [1,2,3,5,7,8] [] hh ?_;clear hh h;intro h hh;repeat apply TW.seq
  refine rk [2,3,5,7,8,15,16,17] [] (f2 hh (znp ax)) ?_;clear hh h;intro h hh;obtain ⟨o,H1,H⟩:=zaf H;repeat apply TW.seq
  refine cu [2,3,5,7,8] 4 (fun h bs=>∃ s_:Int×List Pat×Nat,o=.inr s_∧(h 2=.ptr 0 0 1∧h 3=.ptr 1 0 20∧h 5=.ptr 2 0 10∧h 7=.arr 3 20 0 s_.2.2 s_.2.2 (s_.2.2*20)∧h 8=.int .i64 s_.1)∧bs=[.cells true 1 [.fn 117 [] [.ptr 0 0 1]],.cells true 20 (p.mask.l.map (T.int .i64)++(p.bits.l.map (T.int .i64))),.cells true 10 ((zA 10).l.map (T.int .i64)),.cells false (s_.2.2*20) (vecC ePat s_.2.1)]) ?_ ?_
  ·skip;repeat apply TW.seq
   apply TW.block;repeat apply TW.seq
   refine TW.loopT [2,3,5,7,8,15,16,17] (fun m h bs=>∃ (at_:Int) (i:Int) (l2:List Pat) (n:Nat),zan k p l m at_ i l2 n=some o∧(h 2=.ptr 0 0 1∧h 3=.ptr 1 0 20∧h 5=.ptr 2 0 10∧h 7=.arr 3 20 0 n n (n*20)∧h 8=.int .i64 at_∧h 15=lPat l∧h 16=.int .i64 (l.length:Int)∧h 17=.int .i64 i)∧bs=[.cells true 1 [.fn 117 [] [.ptr 0 0 1]],.cells true 20 (p.mask.l.map (T.int .i64)++(p.bits.l.map (T.int .i64))),.cells true 10 ((zA 10).l.map (T.int .i64)),.cells false (n*20) (vecC ePat l2)]) ?_ k _ _ ?_;rotate_left
   ·exact ⟨160,0,[],0,H1,kq hh,rfl⟩
   clear hh h H1;rintro m h bs ⟨at_,i,l2,n,H1,hh,rfl⟩;rcases m with _|m
   ·rw [zan] at H1;cases H1
   rw [zan] at H1;repeat apply TW.seq
   refine rk [2,3,5,7,8,15,16,17,18] [] hh ?_;clear hh h;intro h hh;rcases isp H1 with ⟨c1,H1⟩|⟨c1,H1⟩;rotate_left
   ·skip;repeat apply TW.seq
    refine cf (f2 hh (decide_eq_false c1)) ?_;refine xk ?_;cases H1;exact ce hh ⟨_,rfl,kq hh,rfl⟩
   repeat apply TW.seq
   refine ct (f2 hh (decide_eq_true c1)) ?_;repeat apply TW.seq
   refine sk ?_;repeat apply TW.seq
   apply TW.block;obtain ⟨g2,H1⟩:=isg H1;repeat apply TW.seq
   refine rk [2,3,5,7,8,10,15,16,17] [] (f3 hh (zar g2) (znp ax)) ?_;clear hh h;intro h hh;obtain ⟨rOverlap,e3,H1⟩:=zaf H1;repeat apply TW.seq
   refine rkc [2,3,5,7,8,10,15,16,17,24] [] [(.bool rOverlap,stL [.cells true 1 [.fn 117 [] [.ptr 0 0 1]],.cells true 20 (p.mask.l.map (T.int .i64)++(p.bits.l.map (T.int .i64))),.cells true 10 ((zA 10).l.map (T.int .i64)),.cells false (n*20) (vecC ePat l2),.cells true 20 (((gx l i).mask).l.map (T.int .i64)++(((gx l i).bits).l.map (T.int .i64)))])] hh ?_ ?_
   ·exact ⟨za4.call ((zg0 ax hx k p (gx l i) rOverlap e3 ).call _),trivial⟩
   clear hh h;intro h hh;rcases isb H1 with ⟨c4,H1⟩|⟨c4,H1⟩;rotate_left
   ·skip;repeat apply TW.seq
    refine ct (f2 hh c4) ?_;refine xk ?_;repeat apply TW.seq
    refine rk [2,3,5,7,8,15,16,17] [] (f2 hh c4) ?_;clear hh h;intro h hh;exact rd m hh ⟨at_,(IntKind.i64.wrap (i+1)),l2,n,H1,kq hh,rfl⟩
   repeat apply TW.seq
   refine cf (f2 hh c4) ?_;repeat apply TW.seq
   refine sk ?_;obtain ⟨g5,H1⟩:=isg H1;repeat apply TW.seq
   refine rg [] [] [.cells true 1 [.fn 117 [] [.ptr 0 0 1]],.cells true 20 (p.mask.l.map (T.int .i64)++(p.bits.l.map (T.int .i64))),.cells true 10 ((zA 10).l.map (T.int .i64)),.cells false ((n+1)*20) (vecC ePat (l2++[(gx l i)])),.cells true 20 (((gx l i).mask).l.map (T.int .i64)++(((gx l i).bits).l.map (T.int .i64)))] (fun h=>h 2=.ptr 0 0 1∧h 3=.ptr 1 0 20∧h 5=.ptr 2 0 10∧h 7=.arr 3 20 0 (n+1) (n+1) ((n+1)*20)∧h 8=.int .i64 at_∧h 10=.ptr 4 0 20∧h 15=lPat l∧h 16=.int .i64 (l.length:Int)∧h 17=.int .i64 i) (f3 hh c4 (f3 ((show vecC ePat [(gx l i)]=(((gx l i).mask).l.map (T.int .i64)++(((gx l i).bits).l.map (T.int .i64))) from zmd.trans rfl)) (z58 ax) (ybx ax))) trivial ?_;clear hh h;intro h hh;repeat apply TW.seq
   refine rk [2,3,5,7,8,10,11,15,16,17] [] (f2 hh c4) ?_;clear hh h;intro h hh;repeat apply TW.seq
   refine rkc [2,3,5,7,8,11,15,16,17,31] [] [(.fn 140 [] [.cp (((gx l i).mask).l.map (T.int .i64)++(((gx l i).bits).l.map (T.int .i64))),.cp (p.mask.l.map (T.int .i64)++(p.bits.l.map (T.int .i64)))],stL [.cells true 1 [.fn 117 [] [.ptr 0 0 1]],.cells true 20 (p.mask.l.map (T.int .i64)++(p.bits.l.map (T.int .i64))),.cells true 10 ((zA 10).l.map (T.int .i64)),.cells false ((n+1)*20) (vecC ePat (l2++[(gx l i)])),.cells true 20 (((gx l i).mask).l.map (T.int .i64)++(((gx l i).bits).l.map (T.int .i64))),.cells true 1 [.int .i64 (-1)]])] (f2 hh c4) ?_ ?_
   ·exact ⟨za4.call (Pure.clr (z8t ax hx (gx l i) p) (by first|rfl|simp only [c4])),trivial⟩
   clear hh h;intro h hh;repeat apply TW.seq
   apply TW.block;obtain ⟨g6,H1⟩:=isg H1;obtain ⟨g7,H1⟩:=isg H1;rcases isr H1 with ⟨c8,H1⟩|⟨x,l3,c8,H1⟩;rotate_left
   ·skip;repeat apply TW.seq
    revert h;intro hO hhO;refine rx1 hhO g6 g7 c8 ?_;refine gk [2,3,5,7,8,11,15,16,17,32] hhO ?_;intro h hh;repeat apply TW.seq
    refine rk [2,3,5,7,8,11,12,15,16,17] [] (f2 hh c4) ?_;clear hh h;intro h hh;repeat apply TW.seq
    apply TW.block;repeat apply TW.seq
    refine rk [2,3,5,7,8,11,15,16,17] [] (f2 hh c4) ?_;clear hh h;intro h hh;refine xr ?_;clear hh h;revert hO;intro h hh;repeat apply TW.seq
    refine rk [2,3,5,7,8,11,15,16,17,35] [] (f2 hh c4) ?_;clear hh h;intro h hh;rcases isp H1 with ⟨c9,H1⟩|⟨c9,H1⟩;rotate_left
    ·skip;repeat apply TW.seq
     refine cf (f2 hh (decide_eq_false c9)) ?_;repeat apply TW.seq
     refine sk ?_;repeat apply TW.seq
     refine rk [2,3,5,7,8,15,16,17] [] (f2 hh c4) ?_;clear hh h;intro h hh;repeat apply TW.seq
     refine rk [2,3,5,7,8,15,16,17] [] (f2 hh c4) ?_;clear hh h;intro h hh;exact rd m hh ⟨(min at_ (x:Int)),(IntKind.i64.wrap (i+1)),(l2++[(gx l i)]),(n+1),H1,kq hh,rfl⟩
    repeat apply TW.seq
    refine ct (f2 hh (decide_eq_true c9)) ?_;repeat apply TW.seq
    refine rk [5,6] [] (f3 hh c4 (bz39 ax)) ?_;clear hh h;intro h hh;cases H1;obtain rfl:=sinl H;exact rtBc hh
   repeat apply TW.seq
   refine rx0 hh ?_ g6 g7 c8;repeat apply TW.seq
   refine rk [2,3,5,7,8,11,15,16,17,35] [] (f2 hh c4) ?_;clear hh h;intro h hh;rcases isp H1 with ⟨c10,H1⟩|⟨c10,H1⟩;rotate_left
   ·skip;repeat apply TW.seq
    refine cf (f2 hh (decide_eq_false c10)) ?_;repeat apply TW.seq
    refine sk ?_;repeat apply TW.seq
    refine rk [2,3,5,7,8,15,16,17] [] (f2 hh c4) ?_;clear hh h;intro h hh;repeat apply TW.seq
    refine rk [2,3,5,7,8,15,16,17] [] (f2 hh c4) ?_;clear hh h;intro h hh;exact rd m hh ⟨(min at_ (-1)),(IntKind.i64.wrap (i+1)),(l2++[(gx l i)]),(n+1),H1,kq hh,rfl⟩
   repeat apply TW.seq
   refine ct (f2 hh (decide_eq_true c10)) ?_;repeat apply TW.seq
   refine rk [5,6] [] (f3 hh c4 (bz39 ax)) ?_;clear hh h;intro h hh;cases H1;obtain rfl:=sinl H;exact rtBc hh
  clear hh h;rintro h bs ⟨s_,rfl,hh,rfl⟩;replace H:=sinr H;repeat apply TW.seq
  refine rk [2,3,5,7,8,43] [] (f2 hh (znp ax)) ?_;clear hh h;intro h hh;rcases isp H with ⟨c11,H⟩|⟨c11,H⟩;rotate_left
  ·skip;repeat apply TW.seq
   refine cf (f2 hh (decide_eq_false c11)) ?_;repeat apply TW.seq
   refine sk ?_;obtain ⟨rfix,e13,H⟩:=zaf H;obtain ⟨g14,H⟩:=isg H;repeat apply TW.seq
   refine TW.freeze 7 (b:=3) (e:=20) (off:=0) (len:=s_.2.2) (cap:=s_.2.2) (M:=(s_.2.2*20)) (s_.2.1.map ePat) (kq hh) (by rfl) (by omega) (by omega) (by rw [List.drop_zero];exact zir (e:=20) (fun x=>zcu x) g14) (fun t ht=>by obtain ⟨x,_,rfl⟩:=List.mem_map.1 ht;first|rfl|exact zl2 _|exact zcu _|exact zjw _|exact za6 _ | (rw [List.length_map];rfl)) (by rw [List.length_map];exact g14) (by omega) ?_;rw [ziu _ _ _ (by simp only [lzA]<;>omega)];simp only [scA];refine gk [2,3,5,7,8,43] hh ?_;clear hh h;intro h hh;obtain ⟨rb,e15,H⟩:=zaf H;repeat apply TW.seq
   refine dk 4 [2,3,5,7,8,13,14] [ePat rfix] [] [(.tup [.agg (rb.1.l.map (T.int .i64)),.bool rb.2],stL [.cells true 1 [.fn 117 [] [.ptr 0 0 1]],.cells true 20 (p.mask.l.map (T.int .i64)++(p.bits.l.map (T.int .i64))),.cells true 10 ((zA 10).l.map (T.int .i64)),.gone])] (f3 hh ybf (z6z ax)) ?_ ?_ ?_
   ·exact ⟨(zoj ax hx k p s_.1 0 rfix e13 ).call _,trivial⟩
   ·exact ⟨ca [0] (ih rfix s_.2.1 rb e15),trivial⟩
   clear hh h;intro h hh;repeat apply TW.seq
   refine rk [2,3,5,7,8,13,55] [] hh ?_;clear hh h;intro h hh;rcases isb H with ⟨c16,H⟩|⟨c16,H⟩;rotate_left
   ·skip;repeat apply TW.seq
    refine cf (f2 hh c16) ?_;repeat apply TW.seq
    refine sk ?_;obtain ⟨rfix2,e17,H⟩:=zaf H;obtain ⟨rb2,e18,H⟩:=zaf H;repeat apply TW.seq
    refine dk 4 [5,6] [ePat rfix2] [] [(.tup [.agg (rb2.1.l.map (T.int .i64)),.bool rb2.2],stL [.cells true 1 [.fn 117 [] [.ptr 0 0 1]],.cells true 20 (p.mask.l.map (T.int .i64)++(p.bits.l.map (T.int .i64))),.cells true 10 ((zA 10).l.map (T.int .i64)),.gone,.cells true 10 (rb.1.l.map (T.int .i64))])] (f3 hh c16 (f2 ybf (z6z ax))) ?_ ?_ ?_
    ·exact ⟨Pure.clr (zoj ax hx k p s_.1 1 rfix2 e17 ) (by first|rfl|simp only [c16]),trivial⟩
    ·exact ⟨ca [0] (ih rfix2 s_.2.1 rb2 e18),trivial⟩
    clear hh h;intro h hh;cases H;exact rtBc hh
   repeat apply TW.seq
   refine ct (f2 hh c16) ?_;repeat apply TW.seq
   refine rk [5,6] [] (f2 hh c16) ?_;clear hh h;intro h hh;cases H;exact rtBc hh
  repeat apply TW.seq
  refine ct (f2 hh (decide_eq_true c11)) ?_;obtain ⟨rLeast,e12,H⟩:=zaf H;repeat apply TW.seq
  refine rkc [5,6] [] [(.agg (rLeast.l.map (T.int .i64)),stL [.cells true 1 [.fn 117 [] [.ptr 0 0 1]],.cells true 20 (p.mask.l.map (T.int .i64)++(p.bits.l.map (T.int .i64))),.cells true 10 ((zA 10).l.map (T.int .i64)),.cells false (s_.2.2*20) (vecC ePat s_.2.1)])] hh ?_ ?_
  ·exact ⟨za4.call ((zsk ax hx k p rLeast e12 ).call _),trivial⟩
  clear hh h;intro h hh;cases H;exact rtBc hh
theorem zlj (ax:Axs) (hx:zcs ax) (k:Nat) (p:Pat) (l:List Pat) (v:Ar 10×Bool) (H:zgj k p l=some v):Call Tryz.prog (EE ax) [] 117 [ePat p,lPat l,.ptr 0 0 1] (stL [.cells true 1 [.fn 117 [] [.ptr 0 0 1]]]) (tupT [.agg (v.1.l.map (T.int .i64)),.bool v.2]) (stL [.cells true 1 [.fn 117 [] [.ptr 0 0 1]]]):=zj6 ax hx k k p l v H
def zc3 (k:Nat) (p:Pat) (l:List Pat):Option (Ar 10×Bool):=((zgj k p l).bind fun rb=>some (rb.1,rb.2))
set_option maxHeartbeats 8000000 in
theorem zj0 (ax:Axs) (hx:zcs ax) (k:Nat) (p:Pat) (l:List Pat) (v:Ar 10×Bool) (H:zc3 k p l=some v):Pure Tryz.prog (EE ax) [] 67 [ePat p,lPat l] (tupT [.agg (v.1.l.map (T.int .i64)),.bool v.2]):=by
 rw [zc3] at H;refine enN [.cell 4 39,.tmp 5] 14 [0,1] (hx.no _ (by decide)) (fn67 ax) ?_;intro h hh;repeat apply TW.seq
 refine rk [1,2,4] [] hh ?_;clear hh h;intro h hh;repeat apply TW.seq
 refine rk [1,2,4,6] [] (f3 hh ybf (z6z ax)) ?_;clear hh h;intro h hh;repeat apply TW.seq
 refine rk [1,2,4,6] [] (f3 hh ybf (z6z ax)) ?_;clear hh h;intro h hh;obtain ⟨rb,e1,H⟩:=zaf H;repeat apply TW.seq
 refine rkc [4,5] [] [(.tup [.agg (rb.1.l.map (T.int .i64)),.bool rb.2],stL [.cells true 20 (p.mask.l.map (T.int .i64)++(p.bits.l.map (T.int .i64))),.cells true 10 ((zA 10).l.map (T.int .i64)),.cells true 1 [.fn 117 [] [.ptr 2 0 1]]])] (f3 hh ybf (z6z ax)) ?_ ?_
 ·exact ⟨ca [2] (zlj ax hx k p l rb e1),trivial⟩
 clear hh h;intro h hh;cases H;exact rtc hh
end
section
open Go Go.RowKit
def zcv (p q:Pat):Bool:=(List.range 160).all fun i=>!(hbit p.mask i && hbit q.mask i) || (hbit p.bits i == hbit q.bits i)
theorem zhx {p q:Pat}:zcv p q=true↔∀ i,i<160→hbit p.mask i=true→hbit q.mask i=true→hbit p.bits i=hbit q.bits i:=by
  unfold zcv;rw [List.all_eq_true];constructor
  · intro hh i hi hm hq;have:=hh i (List.mem_range.2 hi);rw [hm,hq] at this;simpa using this
  · intro hh i hi;have:=hh i (List.mem_range.1 hi)
    cases hm:hbit p.mask i with
    |false=>rfl
    |true =>
      cases hq:hbit q.mask i with
      |false=>rfl
      |true=>simpa using this hm hq
theorem zo7 {k:Nat} {p q:Pat} (hp:zag p=true) (hq:zag q=true) (hk:10<k):zd3 k p q=some (zcv p q):=by
  obtain ⟨pm,pb,_⟩:=zam.1 hp;obtain ⟨qm,qb,_⟩:=zam.1 hq;unfold zd3
  rw [zkm (L:=zbt k p q) 10 false (fun j=>decide ((hw p.bits j ^^^ hw q.bits j) &&& (hw p.mask j &&& hw q.mask j)=0)) (by decide) (fun m j hj=>by
    obtain ⟨a1,a2⟩:=zb1 pb hj;obtain ⟨b1,b2⟩:=zb1 pm hj;obtain ⟨c1,c2⟩:=zb1 qb hj;obtain ⟨d1,d2⟩:=zb1 qm hj;have hx:hw p.bits j ^^^ hw q.bits j<2 ^ 16:=Nat.xor_lt_two_pow a2 c2;have hy:(hw p.bits j ^^^ hw q.bits j) &&& hw p.mask j≤hw p.mask j:=Nat.and_le_right;rw [zbt,if_pos (lt10 hj),if_pos ⟨by omega,lt10 hj⟩,a1,b1,c1,d1,ycx (by omega) (by omega),zwp (by omega) (by omega),zwp (by omega) (by omega),Nat.and_assoc];by_cases c:(hw p.bits j ^^^ hw q.bits j) &&& (hw p.mask j &&& hw q.mask j)=0
    · rw [if_neg (by omega),if_pos (decide_eq_true c)]
    · rw [if_pos (by omega),if_neg (by rw [decide_eq_true_eq];exact c)]) (fun m=>by rw [zbt];exact if_neg (by decide)) hk,Option.bind_some]
  have e:(List.range 10).all (fun j=>decide ((hw p.bits j ^^^ hw q.bits j) &&& (hw p.mask j &&& hw q.mask j)=0))=zcv p q:=by
    rw [Bool.eq_iff_iff,List.all_eq_true,zhx];have hand:∀ j,j<10→hw p.mask j &&& hw q.mask j<65536:=fun j hj=>Nat.lt_of_le_of_lt Nat.and_le_left (zb1 pm hj).2;constructor
    · intro hall i hi h1 h2;have:=of_decide_eq_true (hall (i / 16) (List.mem_range.2 (by omega)));refine (zst (zb1 pb (by omega)).2 (zb1 qb (by omega)).2 (hand (i / 16) (by omega))).1 this (15 - i % 16) (by omega) ?_;rw [Nat.testBit_and];unfold hbit at h1 h2;rw [h1,h2];rfl
    · intro hall j hj;have hj':=List.mem_range.1 hj;refine decide_eq_true ((zst (zb1 pb hj').2 (zb1 qb hj').2 (hand j hj')).2 fun t ht h1=>?_);rw [Nat.testBit_and,Bool.and_eq_true] at h1;rw [← zin p.bits hj' ht,← zin q.bits hj' ht];exact hall _ (z43 j t hj' ht).2.2 (by rw [zin p.mask hj' ht];exact h1.1) (by rw [zin q.mask hj' ht];exact h1.2)
  rw [e];cases zcv p q<;>rfl
theorem z13 {a:Ar 10} {i w:Nat} (ha:zac a=true) (hi:i<160) (hw':w<65536):zac (a.set ((i / 16:Nat):Int) (w:Int))=true∧∀ j,j<160→hbit (a.set ((i / 16:Nat):Int) (w:Int)) j=if j / 16=i / 16 then w.testBit (15 - j % 16) else hbit a j:=by
  have hi10:i / 16<10:=by omega
  refine ⟨zh5 fun j hj=>?_,fun j hj=>?_⟩
  · by_cases c:i / 16=j
    · subst c;exact ⟨w,zgl _ hi10,hw'⟩
    · rw [zja _ hj c];exact ⟨_,(zb1 ha hj).1,(zb1 ha hj).2⟩
  · unfold hbit hw;by_cases c:i / 16=j / 16
    · rw [if_pos c.symm,← c,zgl _ hi10];rfl
    · rw [if_neg (fun q=>c q.symm),zja _ (by omega) c]
theorem z6y {i:Nat}:2 ^ (15 - i % 16)<65536:=show 2 ^ (15 - i % 16)<2 ^ 16 from Nat.pow_lt_pow_right (by decide) (by omega)
theorem yjk {a:Ar 10} {i:Nat} (ha:zac a=true) (hi:i<160):zac (a.set ((i / 16:Nat):Int) (iOr .i64 (gx a.l ((i / 16:Nat):Int)) ((2 ^ (15 - i % 16):Nat):Int)))=true∧∀ j,j<160→hbit (a.set ((i / 16:Nat):Int) (iOr .i64 (gx a.l ((i / 16:Nat):Int)) ((2 ^ (15 - i % 16):Nat):Int))) j=(decide (j=i) || hbit a j):=by
  obtain ⟨a1,a2⟩:=zb1 ha (show i / 16<10 by omega);have h2:=z6y (i:=i);rw [a1,z1d (by omega) (by omega)];obtain ⟨r1,r2⟩:=z13 ha hi (w:=hw a (i / 16) ||| 2 ^ (15 - i % 16)) (Nat.or_lt_two_pow (n:=16) a2 h2);refine ⟨r1,fun j hj=>?_⟩;rw [r2 j hj];by_cases c:j / 16=i / 16
  · rw [if_pos c,Nat.testBit_or,zs3,← c,Bool.or_comm];congr 1;exact decide_eq_decide.2 (by omega)
  · rw [if_neg c,decide_eq_false (by intro q;subst q;exact c rfl),Bool.false_or]
theorem ygh {a:Ar 10} {i:Nat} (ha:zac a=true) (hi:i<160):zac (a.set ((i / 16:Nat):Int) (zkq .i64 (gx a.l ((i / 16:Nat):Int)) ((2 ^ (15 - i % 16):Nat):Int)))=true∧∀ j,j<160→hbit (a.set ((i / 16:Nat):Int) (zkq .i64 (gx a.l ((i / 16:Nat):Int)) ((2 ^ (15 - i % 16):Nat):Int))) j=(!decide (j=i) && hbit a j):=by
  obtain ⟨a1,a2⟩:=zb1 ha (show i / 16<10 by omega);have h2:=z6y (i:=i);rw [a1,z92 (by omega) (by omega)];obtain ⟨r1,r2⟩:=z13 ha hi (w:=hw a (i / 16) - (hw a (i / 16) &&& 2 ^ (15 - i % 16))) (by omega);refine ⟨r1,fun j hj=>?_⟩;rw [r2 j hj];by_cases c:j / 16=i / 16
  · rw [if_pos c,zvg (by omega) (by omega),zs3,← c,Bool.and_comm];congr 2;exact decide_eq_decide.2 (by omega)
  · rw [if_neg c,decide_eq_false (by intro q;subst q;exact c rfl),Bool.not_false,Bool.true_and]
theorem ykf {k i:Nat} (hi:i<160):zfm k (i:Int)=some ((2 ^ (15 - i % 16):Nat):Int):=by
  have e:IntKind.i64.wrap (15 - ((i:Int) % 16))=((15 - i % 16:Nat):Int):=by rw [wr64 (by omega)];omega
  unfold zfm;rw [if_pos ⟨by omega,by decide⟩,e,if_pos (by omega)];have h2:=z6y (i:=i);unfold iShl
  have e2:min ((15 - i % 16:Nat):Int).toNat IntKind.i64.bits=15 - i % 16:=by
    have:IntKind.i64.bits=64:=rfl;rw [this];omega
  rw [e2,Int.one_mul,show ((2:Int) ^ (15 - i % 16))=((2 ^ (15 - i % 16):Nat):Int) by push_cast;rfl];generalize 2 ^ (15 - i % 16)=w at h2 ⊢;rw [wr64 (by omega)]
structure zu6 (p:Pat) (i:Nat) (b:Bool) (r:Pat):Prop where
  mask:zac r.mask=true
  bits:zac r.bits=true
  hm:∀ j,j<160→hbit r.mask j=(decide (j=i) || hbit p.mask j)
  hb:∀ j,j<160→hbit r.bits j=if j=i then b else hbit p.bits j
theorem z41 {k i:Nat} {p:Pat} {b:Bool} (hp:zag p=true) (hi:i<160):∃ r,zgw k p (i:Int) (b.toNat:Int)=some r∧zu6 p i b r:=by
  obtain ⟨pm,pb,_⟩:=zam.1 hp;have hw16:IntKind.i64.wrap ((i:Int) / 16)=((i / 16:Nat):Int):=zva hi;have hi10:i / 16<10:=by omega
  unfold zgw;rw [if_pos ⟨by omega,by decide⟩,hw16,if_pos ⟨by omega,by omega⟩,ykf hi,Option.bind_some,Option.bind_some];obtain ⟨m1,m2⟩:=yjk pm hi;obtain ⟨c1,c2⟩:=ygh pb hi
  cases b with
  |false =>
    rw [if_neg (by decide)];exact ⟨_,rfl,m1,c1,m2,fun j hj=>by rw [c2 j hj];by_cases q:j=i<;>simp [q]⟩
  |true =>
    rw [if_pos (by decide),Option.bind_some];obtain ⟨o1,o2⟩:=yjk c1 hi;exact ⟨_,rfl,m1,o1,m2,fun j hj=>by rw [o2 j hj,c2 j hj];by_cases q:j=i<;>simp [q]⟩
/-! the first open bit -/
def zej (a b:Nat):Nat:=(a - (a &&& b)) % 65536
theorem ztr:∀ (l m:List Nat) (i:Nat),l.length=m.length→(zpc i l m=[]∧∀ s,s<l.length→zej (l.getD s 0) (m.getD s 0)=0)∨∃ s,s<l.length∧(∀ s',s'<s→zej (l.getD s' 0) (m.getD s' 0)=0)∧zej (l.getD s 0) (m.getD s 0)≠0∧∃ r,zpc i l m=(16*(i+s)+(15 - Nat.log2 (zej (l.getD s 0) (m.getD s 0)))) :: r
  |[],m,i,h=>.inl ⟨by unfold zpc;rfl,fun s hs=>by simp at hs⟩
  |a :: l,[],i,h=>by simp at h
  |a :: l,b :: m,i,h=>by
    have e:zpc i (a :: l) (b :: m)=(zso 17 (zej a b)).map (fun x=>16*i+x)++zpc (i+1) l m:=by rw [zpc];rfl
    rw [e];by_cases c:zej a b=0
    · have e0:zso 17 (zej a b)=[]:=by rw [c];rfl
      rw [e0,List.map_nil,List.nil_append];rcases ztr l m (i+1) (by simpa using h) with ⟨h1,h2⟩|⟨s,h1,h2,h3,r,h4⟩
      · refine .inl ⟨h1,fun s hs=>?_⟩
        cases s with
        |zero=>exact c
        |succ s=>exact h2 s (by simpa using hs)
      · refine .inr ⟨s+1,by simpa using h1,fun s' hs'=>?_,h3,r,?_⟩
        · cases s' with
          |zero=>exact c
          |succ s'=>exact h2 s' (by omega)
        · rw [h4,List.getD_cons_succ,List.getD_cons_succ,show i+1+s=i+(s+1) by omega]
    · have e0:zso 17 (zej a b)=(15 - Nat.log2 (zej a b)) :: zso 16 (zej a b - 2 ^ Nat.log2 (zej a b)):=by rw [zso,if_neg c]
      rw [e0];exact .inr ⟨0,by simp,fun s' hs'=>by omega,c,_,rfl⟩
theorem z5p {a b t:Nat} (ha:a<65536) (hb:b<65536) (ht:t<16):(zej a b).testBit t=(a.testBit t && !b.testBit t):=by
  unfold zej;rw [Nat.mod_eq_of_lt (by omega),zvg (by omega) (by omega)]
theorem zyk {a:Ar 10} {s:Nat} (hs:s<10):(zhc a).getD s 0=hw a s:=by
  unfold zhc hw;rw [zo0,List.getD_eq_getElem?_getD,List.getD_eq_getElem?_getD,List.getElem?_map]
  cases h:a.l[s]? with
  |none=>rw [List.getElem?_eq_none_iff] at h;have:=a.h;omega
  |some x=>rfl
def zge (q p:Pat) (i:Nat):Bool:=hbit q.mask i && !hbit p.mask i
theorem z5r {q p:Pat} (hq:zac q.mask=true) (hp:zac p.mask=true):(z5s q.mask p.mask=[]∧∀ i,i<160→zge q p i=false)∨∃ x r,z5s q.mask p.mask=x :: r∧x<160∧zge q p x=true∧∀ i,i<x→zge q p i=false:=by
  have hl:∀ a:Ar 10,(zhc a).length=10:=fun a=>by unfold zhc;rw [List.length_map,a.h]
  have hW:∀ s,s<10→zej ((zhc q.mask).getD s 0) ((zhc p.mask).getD s 0)=zej (hw q.mask s) (hw p.mask s):=fun s hs=>by rw [zyk hs,zyk hs]
  have bit:∀ i,i<160→zge q p i=(zej (hw q.mask (i / 16)) (hw p.mask (i / 16))).testBit (15 - i % 16):=fun i hi=>by
    rw [z5p (zb1 hq (by omega)).2 (zb1 hp (by omega)).2 (by omega)];rfl
  have zero:∀ s,s<10→zej ((zhc q.mask).getD s 0) ((zhc p.mask).getD s 0)=0→∀ i,i<160→i / 16=s→zge q p i=false:=fun s hs h0 i hi e=>by
    rw [bit i hi,e,← hW s hs,h0,Nat.zero_testBit]
  rcases ztr (zhc q.mask) (zhc p.mask) 0 (by rw [hl,hl]) with ⟨h1,h2⟩|⟨s,h1,h2,h3,r,h4⟩
  · refine .inl ⟨h1,fun i hi=>zero (i / 16) (by omega) (h2 _ (by rw [hl];omega)) i hi rfl⟩
  · rw [hl] at h1;rw [hW s h1] at h3 h4;have hlt:zej (hw q.mask s) (hw p.mask s)<65536:=Nat.mod_lt _ (by decide);have hlog:Nat.log2 (zej (hw q.mask s) (hw p.mask s))<16:=(Nat.log2_lt h3).2 hlt;have htop:(zej (hw q.mask s) (hw p.mask s)).testBit (Nat.log2 (zej (hw q.mask s) (hw p.mask s)))=true:=Nat.testBit_log2 h3;have hup:∀ t,Nat.log2 (zej (hw q.mask s) (hw p.mask s))<t→(zej (hw q.mask s) (hw p.mask s)).testBit t=false:=fun t ht=>Nat.testBit_lt_two_pow (Nat.lt_of_lt_of_le (Nat.lt_log2_self) (Nat.pow_le_pow_right (by decide) ht));generalize Nat.log2 (zej (hw q.mask s) (hw p.mask s))=g at *;refine .inr ⟨16*(0+s)+(15 - g),r,h4,by omega,?_,fun i hi=>?_⟩
    · rw [bit _ (by omega),show (16*(0+s)+(15 - g)) / 16=s by omega,show 15 - (16*(0+s)+(15 - g)) % 16=g by omega];exact htop
    · by_cases c:i / 16=s
      · rw [bit i (by omega),c];exact hup _ (by omega)
      · exact zero (i / 16) (by omega) (h2 _ (by omega)) i (by omega) rfl
theorem z86 {a:Ar 10} (h:zac a=true):natM a:=by
  intro x hx;unfold zac at h;have:=List.all_eq_true.1 h x hx;unfold ztn at this;have:=of_decide_eq_true this;omega
end
section
open Go Go.RowKit
def ltH (a b:Ar 10):Prop:=∃ i,i<160∧(∀ j,j<i→hbit a j=hbit b j)∧hbit a i=false∧hbit b i=true
structure Out (p:Pat) (l:List Pat) (h:Ar 10):Prop where
  right:zac h=true
  into:za5 p h=true
  no:∀ q,q∈l→za5 q h=false
structure ybj (p:Pat) (l:List Pat) (h:Ar 10):Prop where
  out:Out p l h
  least:∀ h',Out p l h'→¬ ltH h' h
def Res (p:Pat) (l:List Pat) (r:Ar 10×Bool):Prop:=(r.2=true∧ybj p l r.1)∨(r=(zA 10,false)∧∀ h,¬ Out p l h)
theorem ycp {a b:Ar 10} (ha:zac a=true) (hb:zac b=true):a=b∨ltH a b∨ltH b a:=by
  by_cases h:∃ i,i<160∧hbit a i≠hbit b i
  · right
    have key:∀ n,(∃ i,i<n∧hbit a i≠hbit b i)→∃ i,i<n∧(∀ j,j<i→hbit a j=hbit b j)∧hbit a i≠hbit b i:=by
      intro n
      induction n with
      |zero=>rintro ⟨i,hi,_⟩;omega
      |succ n ih =>
        rintro ⟨i,hi,hd⟩;by_cases h2:∃ i,i<n∧hbit a i≠hbit b i
        · obtain ⟨j,h3,h4,h5⟩:=ih h2;exact ⟨j,by omega,h4,h5⟩
        · refine ⟨i,hi,fun j hj=>?_,hd⟩;by_cases e:hbit a j=hbit b j
          · exact e
          · exact absurd ⟨j,by omega,e⟩ h2
    obtain ⟨i,h1,h2,h3⟩:=key 160 h
    cases e1:hbit a i with
    |false =>
      cases e2:hbit b i with
      |false=>rw [e1,e2] at h3;exact absurd rfl h3
      |true=>exact .inl ⟨i,h1,h2,e1,e2⟩
    |true =>
      cases e2:hbit b i with
      |true=>rw [e1,e2] at h3;exact absurd rfl h3
      |false=>exact .inr ⟨i,h1,fun j hj=>(h2 j hj).symm,e2,e1⟩
  · left
    exact z31 ha hb fun i hi=>by
      by_cases e:hbit a i=hbit b i
      · exact e
      · exact absurd ⟨i,hi,e⟩ h
theorem zv9 {p q:Pat} {h:Ar 10} (hp:za5 p h=true) (hq:za5 q h=true):zcv p q=true :=
  zhx.2 fun i hi h1 h2=>by rw [za1.1 hp i hi h1,za1.1 hq i hi h2]
theorem zh0 {p r:Pat} {i:Nat} {b:Bool} {h:Ar 10} (hi:i<160) (hpi:hbit p.mask i=false) (hf:zu6 p i b r):za5 r h=true↔za5 p h=true∧hbit h i=b:=by
  rw [za1,za1];constructor
  · intro hm;refine ⟨fun j hj h1=>?_,?_⟩
    · have hne:j≠i:=by intro e;rw [e,hpi] at h1;cases h1
      have:=hm j hj (by rw [hf.hm j hj,h1];simp);rw [hf.hb j hj,if_neg hne] at this;exact this
    · have:=hm i hi (by rw [hf.hm i hi];simp);rw [hf.hb i hi,if_pos rfl] at this;exact this.symm
  · rintro ⟨hm,hb⟩ j hj h1;rw [hf.hb j hj];by_cases e:j=i
    · rw [if_pos e,e,hb]
    · rw [if_neg e];rw [hf.hm j hj,decide_eq_false e,Bool.false_or] at h1;exact hm j hj h1
theorem zzb {p r:Pat} {i:Nat} {b:Bool} (hp:zag p=true) (hf:zu6 p i b r):zag r=true:=by
  refine zam.2 ⟨hf.mask,hf.bits,fun j hj h1=>?_⟩;rw [hf.hm j hj];by_cases e:j=i
  · simp [e]
  · rw [hf.hb j hj,if_neg e] at h1;rw [(zam.1 hp).2.2 j hj h1];simp
theorem z5x {p:Pat} {l:List Pat} (hp:zag p=true) (hn:∀ q,q∈l→zcv p q=false):ybj p l p.bits:=by
  obtain ⟨pm,pb,pw⟩:=zam.1 hp;have hself:za5 p p.bits=true:=za1.2 fun i _ _=>rfl;refine ⟨⟨pb,hself,fun q hq=>?_⟩,fun h' ho=>?_⟩
  · cases hm:za5 q p.bits with
    |false=>rfl
    |true=>have:=zv9 hself hm;rw [hn q hq] at this;cases this
  · rintro ⟨i,hi,_,h1,h2⟩;have:=za1.1 ho.into i hi (pw i hi h2);rw [h1,h2] at this;cases this
theorem Out.near {p:Pat} {l:List Pat} {h:Ar 10}:Out p l h↔Out p (l.filter (zcv p)) h:=by
  constructor
  · exact fun ⟨a,b,c⟩=>⟨a,b,fun q hq=>c q (List.mem_filter.1 hq).1⟩
  · refine fun ⟨a,b,c⟩=>⟨a,b,fun q hq=>?_⟩
    cases hm:za5 q h with
    |false=>rfl
    |true =>
      have:=c q (List.mem_filter.2 ⟨hq,zv9 b hm⟩);rw [hm] at this;cases this
theorem Res.join {p p0 p1:Pat} {l:List Pat} {i:Nat} {r0 r1:Ar 10×Bool} (hi:i<160) (hpi:hbit p.mask i=false) (h0:zu6 p i false p0) (h1:zu6 p i true p1)
    (ho:∀ q,q∈l→∀ j,j<i→zge q p j=false) (k0:Res p0 l r0) (k1:r0.2=false→Res p1 l r1):Res p l (if r0.2=true then (r0.1,true) else (r1.1,r1.2)):=by
  rcases k0 with ⟨a,b⟩|⟨a,b⟩
  · rw [if_pos a];refine .inl ⟨rfl,⟨⟨b.out.right,((zh0 hi hpi h0).1 b.out.into).1,b.out.no⟩,fun h' ho'=>?_⟩⟩;obtain ⟨bm,bi⟩:=(zh0 hi hpi h0).1 b.out.into;rintro ⟨j,hj,e1,e2,e3⟩
    cases hb:hbit h' i with
    |false=>exact b.least h' ⟨ho'.right,(zh0 hi hpi h0).2 ⟨ho'.into,hb⟩,ho'.no⟩ ⟨j,hj,e1,e2,e3⟩
    |true =>
      by_cases c1:j=i
      · subst c1;rw [bi] at e3;cases e3
      · by_cases c2:i<j
        · have:=e1 i c2;rw [hb,bi] at this;cases this
        · have hji:j<i:=by omega
          have hpj:hbit p.mask j=false:=by
            cases hm:hbit p.mask j with
            |false=>rfl
            |true =>
              have x1:=za1.1 ho'.into j hj hm;have x2:=za1.1 bm j hj hm;rw [x1,e2] at x2;rw [e3] at x2;cases x2
          obtain ⟨c3,c4⟩:=ygh b.out.right hj;generalize r0.1.set ((j / 16:Nat):Int) _=h2 at c3 c4;refine b.least h2 ⟨c3,?_,fun q hq=>?_⟩ ⟨j,hj,fun s hs=>?_,?_,e3⟩
          · refine (zh0 hi hpi h0).2 ⟨za1.2 fun s hs hm=>?_,?_⟩
            · have hne:s≠j:=by intro e;rw [e,hpj] at hm;cases hm
              rw [c4 s hs,decide_eq_false hne,Bool.not_false,Bool.true_and];exact za1.1 bm s hs hm
            · rw [c4 i hi,decide_eq_false (by omega),Bool.not_false,Bool.true_and];exact bi
          · have hqj:hbit q.mask j=false:=by
              have:=ho q hq j hji;unfold zge at this;rw [hpj] at this;simpa using this
            cases hm:za5 q h2 with
            |false=>rfl
            |true =>
              have:za5 q r0.1=true:=za1.2 fun s hs hms=>by
                have hne:s≠j:=by intro e;rw [e,hqj] at hms;cases hms
                have x:=za1.1 hm s hs hms;rw [c4 s hs,decide_eq_false hne,Bool.not_false,Bool.true_and] at x;exact x
              rw [b.out.no q hq] at this;cases this
          · rw [c4 s (by omega),decide_eq_false (by omega),Bool.not_false,Bool.true_and]
          · rw [c4 j hj];simp
  · subst a;rw [if_neg (by simp)];have k:=k1 rfl
    have split:∀ h,Out p l h→Out p1 l h:=fun h ho'=>by
      cases hb:hbit h i with
      |false=>exact absurd ⟨ho'.right,(zh0 hi hpi h0).2 ⟨ho'.into,hb⟩,ho'.no⟩ (b h)
      |true=>exact ⟨ho'.right,(zh0 hi hpi h1).2 ⟨ho'.into,hb⟩,ho'.no⟩
    rcases k with ⟨c,d⟩|⟨c,d⟩
    · exact .inl ⟨c,⟨⟨d.out.right,((zh0 hi hpi h1).1 d.out.into).1,d.out.no⟩,fun h' ho'=>d.least h' (split h' ho')⟩⟩
    · exact .inr ⟨by rw [c],fun h ho'=>d h (split h ho')⟩
end
end Go.Proofs.YtjgbkegkcbcjaaaGreat
