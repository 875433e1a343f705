/- Part 8 of the proof of TableEqualIsExact (several texts in one; no further condition). -/
import Derived.Test.YtjgbkegkcbcjaaaGreatZE
import Derived.Test.YtjgbkegkcbcjaaaGreatZG
import Derived.Test.YtjgbkegkcbcjaaaGreatRows
import Derived.Test.YtjgbkegkcbcjaaaGreatZF
import Derived.Test.YtjgbkegkcbcjaaaGreatZD
import Derived.KernelRfl
set_option linter.unusedSimpArgs false
set_option linter.unusedVariables false
set_option linter.unusedSectionVars false
namespace Go.Proofs.YtjgbkegkcbcjaaaGreat
section
open Go Go.RowKit
noncomputable def axS:Axs:=z3u 12 (z15 (.bool true)) fun _=>none
theorem ymn:zlb Tryz.prog GG LL axS:=(zlb.none z5n).add (ymm (L:=LL) (ax:=fun _=>none) zov (fn12 fun _=>none) rfl rfl z7l)
theorem ykp:axS 12=some (z15 (.bool true)):=z8l _ _ _
theorem ydk:zbx axS:=by
  refine ⟨fun f hf=>yfv _ _ fun h=>?_,rfl,rfl,fun A β s vargs hT hv=>?_⟩
  · subst h;rw [Nat.beq_refl] at hf;cases hf
  · cases hv;exact ⟨.bool true,s,A,β,yfo (k:=z15 (.bool true)) ykp rfl,hT,.bool true,Stp.refl⟩
theorem ybm {f:FuncId} {fn:Func} {body:Code} (hfn:(EE axS).fn.at f=some fn) (hb:fn.body=some body) {args:List T} {vs:Array Value} {W:World} (h:RtL W args vs.toList) (hp:Pure Tryz.prog (EE axS) [] f args (.bool true)) :
    Calls Tryz.prog f vs W fun e W'=>e=.returned (.bool true)∧Below W.heap.size W W':=by
  obtain ⟨A,xs,k⟩:=entL (N:=W.heap.size) (G:=GG) (K:=[]) rfl (fun p hp=>by simp at hp) (fun g hg=>by simp [has,GG] at hg) h [];have e:([]:List Seg)++A++[]=A:=by simp
  have kr:=k.vr [];have kl:=k.vl [];have ka:=k.at_ [];rw [e] at kr kl ka;obtain ⟨r1,r2,r3,r4⟩:=z9i (G:=GG) (N:=W.heap.size) (K:=[]) (A:=A) rfl (fun p hp=>by simp at hp) (fun p hp=>by simp at hp) (fun g hg=>by simp [has,GG] at hg) ka
  have hT:TRel [] (Low W.heap.size) bx0 ts0 (St (W.heap.size+A.length) (famS W.heap.size [] A) 0 [] []) :=
    ⟨⟨_,rfl⟩,r2,fun f hf=>by have:f<W.heap.size:=hf;show f<W.heap.size+A.length;omega,fun f hf=>absurd hf zi5,fun b b' l l' f hb=>by simp [bx0] at hb,fun b _=>rfl,fun b z N l hb=>by simp [ts0] at hb,fun b l hb=>by simp [ts0] at hb,fun x hx=>by simp at hx⟩
  obtain ⟨v,s2,A',β',e1,e2,e3,e4⟩:=hp.2.2 _ _ _ xs hT kl;cases e3;refine (yfl z20 zov ymn hfn hb (args':=vs) e1 kr r1 r4 r2 r3).mono ?_;rintro e w' ⟨σ',v',rfl,k1,k2⟩;exact ⟨by rw [zx6 3 rfl k1],k2⟩
end
section
open Go Go.RowKit
abbrev big:Nat:=9223372036854775808
theorem zbm (i:Nat) (h:i<9223372036854775807):IntKind.i64.wrap ((i:Int)+1)=((i+1:Nat):Int):=by
  rw [wr64 (by omega)];push_cast;rfl
theorem znc {α:Type} [Inhabited α] (l:List α) (i:Nat):gx l (i:Int)=l.getD i default:=rfl
theorem zea {α:Type} [Inhabited α] {l:List α} {i:Nat} (h:i<l.length):gx l (i:Int)=l[i]:=by
  rw [znc,List.getD_eq_getElem?_getD,List.getElem?_eq_getElem h];rfl
section
variable {α β σ:Type}
def sumO (o:Option β):β ⊕ Unit:=match o with|some b=>.inl b|none=>.inr ()
theorem zmt {L : Nat → Int → Option (β ⊕ Unit)} (n : Nat) (c : Nat → Option β) (hn : n < big) (hs : ∀ m (j : Nat), j < n → L (m + 1) (j : Int) = match c j with | some b => some (.inl b) | none => L m (IntKind.i64.wrap ((j : Int) + 1)))
    (he:∀ m,L (m+1) (n:Int)=some (.inr ())) {k:Nat} (hk:n<k):L k 0=some (sumO ((List.range n).findSome? c)):=by
  have key:∀ m j,j≤n→n - j<m→L m (j:Int)=some (sumO ((List.range' j (n - j)).findSome? c)):=by
    intro m
    induction m with
    |zero=>intro j h1 h2;omega
    |succ m ih =>
      intro j h1 h2;by_cases hj:j<n
      · rw [hs m j hj,show n - j=(n - (j+1))+1 by omega,List.range'_succ,List.findSome?_cons]
        cases hc:c j with
        |some b=>rfl
        |none =>
          simp only;rw [zbm j (by simp only [big] at hn;omega)];exact ih (j+1) (by omega) (by omega)
      · obtain rfl:j=n:=by omega
        rw [he,Nat.sub_self];rfl
  have:=key k 0 (Nat.zero_le _) (by omega);rw [List.range_eq_range'];exact this
theorem zqn {c:Nat→Option β} {d:α→Option β}:∀ (l:List α) (s:Nat),(∀ j (h:j<l.length),c (s+j)=d l[j])→(List.range' s l.length).findSome? c=l.findSome? d
  |[],s,_=>rfl
  |x :: l,s,h=>by
    rw [List.length_cons,List.range'_succ,List.findSome?_cons,List.findSome?_cons];have h0:=h 0 (by simp);rw [Nat.add_zero] at h0;rw [h0];simp only [List.getElem_cons_zero];rw [zqn l (s+1) fun j hj=>by have:=h (j+1) (by simpa using hj);rw [show s+(j+1)=s+1+j by omega] at this;simpa using this]
theorem ybi {L : Nat → Int → Option (β ⊕ Unit)} (l : List α) (c : α → Option β) (hn : l.length < big) (hs : ∀ m (j : Nat) (h : j < l.length), L (m + 1) (j : Int) = match c l[j] with | some b => some (.inl b) | none => L m (IntKind.i64.wrap ((j : Int) + 1)))
    (he:∀ m,L (m+1) (l.length:Int)=some (.inr ())) {k:Nat} (hk:l.length<k):L k 0=some (sumO (l.findSome? c)):=by
  rw [zmt l.length (fun j=>if h:j<l.length then c l[j] else none) hn (fun m j h=>by rw [hs m j h,dif_pos h]) he hk,List.range_eq_range'];rw [zqn l 0 fun j h=>by rw [Nat.zero_add,dif_pos h]]
theorem zl9 {c:α→Option β} {b:β} {q:α→Bool}:∀ (l:List α),(∀ x,x∈l→c x=if q x=true then none else some b)→l.findSome? c=if l.all q=true then none else some b
  |[],_=>rfl
  |x :: l,h=>by
    rw [List.findSome?_cons,h x (.head _),List.all_cons]
    cases hq:q x with
    |true=>simp only [if_true,Bool.true_and];exact zl9 l fun y hy=>h y (.tail _ hy)
    |false=>rfl
theorem zon {L:Nat→Int→Option (β ⊕ Unit)} (l:List α) (b:β) (q:α→Bool) (hn:l.length<big) (hs:∀ m (j:Nat) (h:j<l.length),L (m+1) (j:Int)=if q l[j]=true then L m (IntKind.i64.wrap ((j:Int)+1)) else some (.inl b))
    (he:∀ m,L (m+1) (l.length:Int)=some (.inr ())) {k:Nat} (hk:l.length<k):L k 0=some (if l.all q=true then .inr () else .inl b):=by
  rw [ybi l (fun x=>if q x=true then none else some b) hn (fun m j h=>by rw [hs m j h];cases q l[j]<;>rfl) he hk,zl9 l fun _ _=>rfl];cases l.all q<;>rfl
theorem zh2 {L:Nat→Int→Option (β ⊕ Unit)} (n:Nat) (b:β) (q:Nat→Bool) (hn:n<big) (hs:∀ m (j:Nat),j<n→L (m+1) (j:Int)=if q j=true then L m (IntKind.i64.wrap ((j:Int)+1)) else some (.inl b))
    (he:∀ m,L (m+1) (n:Int)=some (.inr ())) {k:Nat} (hk:n<k):L k 0=some (if (List.range n).all q=true then .inr () else .inl b):=by
  rw [zmt n (fun x=>if q x=true then none else some b) hn (fun m j h=>by rw [hs m j h];cases q j<;>rfl) he hk,zl9 _ fun _ _=>rfl];cases (List.range n).all q<;>rfl
theorem zt7 {l:List α} {q:α→Bool}:l.all q=true↔∀ j (h:j<l.length),q l[j]=true:=by
  rw [List.all_eq_true];exact ⟨fun h j hj=>h _ (List.getElem_mem hj),fun h x hx=>by obtain ⟨j,hj,rfl⟩:=List.getElem_of_mem hx;exact h j hj⟩
def idxB (q:α→Bool) (l:List α):Int:=match l.findIdx? q with|some i=>(i:Int)|none=>-1
theorem z71 {L:Nat→Int→Option (Int ⊕ Unit)} (l:List α) (q:α→Bool) (hn:l.length<big) (hs:∀ m (j:Nat) (h:j<l.length),L (m+1) (j:Int)=if q l[j]=true then some (.inl (j:Int)) else L m (IntKind.i64.wrap ((j:Int)+1)))
    (he:∀ m,L (m+1) (l.length:Int)=some (.inr ())) {k:Nat} (hk:l.length<k):(L k 0).bind (fun o=>Sum.elim (fun r=>some r) (fun _=>some (-1)) o)=some (idxB q l):=by
  have h:=zmt (L:=L) l.length (fun (j:Nat)=>if (l[j]?).any q=true then some (j:Int) else none) hn (fun m j h=>by
    rw [hs m j h,List.getElem?_eq_getElem h];rw [Option.any_some]
    cases q l[j]<;>rfl) he hk
  rw [h,Option.bind_some,List.range_eq_range']
  have key:∀ (l2 pre:List α),(List.range' pre.length l2.length).findSome? (fun (j:Nat)=>if ((pre++l2)[j]?).any q=true then some (j:Int) else none)=(l2.findIdx? q).map fun i=>((pre.length+i:Nat):Int):=by
    intro l2
    induction l2 with
    |nil=>intro pre;rfl
    |cons x l2 ih =>
      intro pre;rw [List.length_cons,List.range'_succ,List.findSome?_cons,List.findIdx?_cons];have e0:(pre++x :: l2)[pre.length]?=some x:=by rw [List.getElem?_append_right (Nat.le_refl _),Nat.sub_self];rfl
      rw [e0];rw [Option.any_some]
      cases hq:q x with
      |true=>simp
      |false =>
        simp only [Bool.false_eq_true,if_false];have:=ih (pre++[x]);rw [List.length_append,List.length_singleton,List.append_assoc,List.singleton_append] at this;rw [this]
        cases l2.findIdx? q with
        |none=>rfl
        |some i=>simp;omega
  have:=key l [];simp only [List.length_nil,List.nil_append,Nat.zero_add] at this;rw [this];unfold idxB;cases l.findIdx? q<;>rfl
end
/-! words -/
theorem zrl {a b:Nat} (ha:a<9223372036854775808) (hb:b<9223372036854775808):iAnd .i64 (a:Int) (b:Int)=((a &&& b:Nat):Int):=by
  have h:a &&& b≤a:=Nat.and_le_left;show IntKind.i64.wrap ((BitVec.ofInt 64 (a:Int) &&& BitVec.ofInt 64 (b:Int)).toNat:Int)=_;rw [BitVec.toNat_and,BitVec.toNat_ofInt,BitVec.toNat_ofInt];rw [show ((a:Int) % ((2 ^ 64:Nat):Int)).toNat=a by omega,show ((b:Int) % ((2 ^ 64:Nat):Int)).toNat=b by omega];exact wr64 (by omega)
theorem z52 {a b:Nat} (ha:a<9223372036854775808) (hb:b<9223372036854775808):iXor .i64 (a:Int) (b:Int)=((a ^^^ b:Nat):Int):=by
  have h:a ^^^ b<2 ^ 63:=Nat.xor_lt_two_pow (by omega) (by omega);show IntKind.i64.wrap ((BitVec.ofInt 64 (a:Int) ^^^ BitVec.ofInt 64 (b:Int)).toNat:Int)=_;rw [BitVec.toNat_xor,BitVec.toNat_ofInt,BitVec.toNat_ofInt];rw [show ((a:Int) % ((2 ^ 64:Nat):Int)).toNat=a by omega,show ((b:Int) % ((2 ^ 64:Nat):Int)).toNat=b by omega];exact wr64 (by omega)
theorem z3a {a b:Nat} (ha:a<9223372036854775808) (hb:b<9223372036854775808):iOr .i64 (a:Int) (b:Int)=((a ||| b:Nat):Int):=by
  have h:a ||| b<2 ^ 63:=Nat.or_lt_two_pow (by omega) (by omega)
  show IntKind.i64.wrap ((BitVec.ofInt 64 (a:Int) ||| BitVec.ofInt 64 (b:Int)).toNat:Int)=_;rw [BitVec.toNat_or,BitVec.toNat_ofInt,BitVec.toNat_ofInt];rw [show ((a:Int) % ((2 ^ 64:Nat):Int)).toNat=a by omega,show ((b:Int) % ((2 ^ 64:Nat):Int)).toNat=b by omega];exact wr64 (by omega)
theorem ycb {a b:Nat} (ha:a<9223372036854775808) (hb:b<9223372036854775808):zl6 .i64 (a:Int) (b:Int)=((a - (a &&& b):Nat):Int):=zw2 ha hb
end
section
open Go Go.RowKit
theorem own:ownKnob Tryz.prog.godebug=none:=by kernel_rfl
theorem zyj:laidOutB Tryz.prog=true:=by kernel_rfl
def inI (x:Int):Prop:=-9223372036854775808≤x∧x≤9223372036854775807
theorem yf7 {x:Int} (h:(Lit.int .i64 x).wf=true):inI x:=by
  simp only [Lit.wf,decide_eq_true_eq,IntKind.wrap,IntKind.bits,IntKind.signed] at h;simp at h;have e1:IntKind.i64.min=-9223372036854775808:=by decide
  have e2:IntKind.i64.max=9223372036854775807:=by decide
  unfold inI;omega
theorem cf_i {t:T} (h:conf (.int .i64) t):∃ n,t=.int .i64 n∧inI n:=by
  obtain ⟨n,rfl,hw⟩:=h;exact ⟨n,rfl,yf7 hw⟩
theorem ykh {t:T} (h:conf .bool t):∃ b,t=.bool b∧True:=by
  obtain ⟨b,rfl⟩:=h;exact ⟨b,rfl,trivial⟩
theorem yip {t:T} (h:conf .str t):∃ s,t=.str s∧s.size<big:=by
  obtain ⟨s,rfl,hs⟩:=h;have hm:maxLen<big:=by decide
  exact ⟨s,rfl,by omega⟩
theorem yc9 {n:Nat} {t:T} (h:conf (.arr .i64 n) t):∃ a:Ar n,t=.agg (a.l.map (T.int .i64))∧∀ y,y∈a.l→inI y:=by
  obtain ⟨a,rfl,hw⟩:=h;exact ⟨a,rfl,fun y hy=>yf7 (hw y hy)⟩
theorem zk7 {α:Type} {f:α→T} {sh:Sh} {p:α→Prop} (hf:∀ t,conf sh t→∃ x,t=f x∧p x) {t:T} (h:conf (.slice sh) t):∃ l:List α,t=.lst sh.sz (l.map f)∧(l.length<big∧∀ x,x∈l→p x):=by
  obtain ⟨l,rfl,hl,hall⟩:=h;have hm:maxLen<big:=by decide
  have key:∀ l:List T,(∀ x,x∈l→conf sh x)→∃ m:List α,l=m.map f∧∀ x,x∈m→p x:=by
    intro l
    induction l with
    |nil=>intro _;exact ⟨[],rfl,fun x hx=>by simp at hx⟩
    |cons t l ih =>
      intro hc;obtain ⟨x,rfl,hp⟩:=hf t (hc t (by simp));obtain ⟨m,rfl,hm⟩:=ih fun y hy=>hc y (by simp [hy]);refine ⟨x :: m,rfl,fun y hy=>?_⟩;rcases List.mem_cons.1 hy with rfl|hy
      · exact hp
      · exact hm y hy
  obtain ⟨m,rfl,hp⟩:=key l hall;rw [List.length_map] at hl;exact ⟨m,rfl,by omega,hp⟩
def zxt:Sh:=.struct [(.arr .i64 10),(.arr .i64 10)]
def yi6 (x:Pat):Prop:=(∀ y,y∈x.mask.l→inI y)∧(∀ y,y∈x.bits.l→inI y)
theorem yiq {t:T} (h:conf zxt t):∃ x:Pat,t=ePat x∧yi6 x:=by
  obtain ⟨cs,rfl,x0,r0,rfl,h0,x1,r1,rfl,h1,rfl⟩:=h;obtain ⟨a0,rfl,q0⟩:=yc9 h0;obtain ⟨a1,rfl,q1⟩:=yc9 h1;exact ⟨⟨a0,a1⟩,by first | (simp only [ePat,T.cells,Sh.sz,Sh.szL,zxt,List.append_nil,List.cons_append,List.nil_append,List.append_assoc,Nat.add_zero,Nat.reduceAdd];done) | (simp only [ePat,T.cells,Sh.sz,Sh.szL,zxt,List.append_nil,List.cons_append,List.nil_append,List.append_assoc,Nat.add_zero,Nat.reduceAdd];rfl),q0,q1⟩
def zvb:Sh:=.struct [.str,.bool,(.int .i64),(.int .i64)]
def yf8 (x:Node):Prop:=x.name.size<big∧True∧inI x.rules∧inI x.entries
theorem yki {t:T} (h:conf zvb t):∃ x:Node,t=zo1 x∧yf8 x:=by
  obtain ⟨cs,rfl,x0,r0,rfl,h0,x1,r1,rfl,h1,x2,r2,rfl,h2,x3,r3,rfl,h3,rfl⟩:=h;obtain ⟨a0,rfl,q0⟩:=yip h0;obtain ⟨a1,rfl,q1⟩:=ykh h1;obtain ⟨a2,rfl,q2⟩:=cf_i h2;obtain ⟨a3,rfl,q3⟩:=cf_i h3;exact ⟨⟨a0,a1,a2,a3⟩,by first | (simp only [zo1,T.cells,Sh.sz,Sh.szL,zvb,List.append_nil,List.cons_append,List.nil_append,List.append_assoc,Nat.add_zero,Nat.reduceAdd];done) | (simp only [zo1,T.cells,Sh.sz,Sh.szL,zvb,List.append_nil,List.cons_append,List.nil_append,List.append_assoc,Nat.add_zero,Nat.reduceAdd];rfl),q0,q1,q2,q3⟩
def zvc:Sh:=.struct [(.int .i64),(.int .i64),(.int .i64)]
def yf9 (x:Link):Prop:=inI x.frm∧inI x.to∧inI x.cap
theorem ykj {t:T} (h:conf zvc t):∃ x:Link,t=zo2 x∧yf9 x:=by
  obtain ⟨cs,rfl,x0,r0,rfl,h0,x1,r1,rfl,h1,x2,r2,rfl,h2,rfl⟩:=h;obtain ⟨a0,rfl,q0⟩:=cf_i h0;obtain ⟨a1,rfl,q1⟩:=cf_i h1;obtain ⟨a2,rfl,q2⟩:=cf_i h2;exact ⟨⟨a0,a1,a2⟩,by first | (simp only [zo2,T.cells,Sh.sz,Sh.szL,zvc,List.append_nil,List.cons_append,List.nil_append,List.append_assoc,Nat.add_zero,Nat.reduceAdd];done) | (simp only [zo2,T.cells,Sh.sz,Sh.szL,zvc,List.append_nil,List.cons_append,List.nil_append,List.append_assoc,Nat.add_zero,Nat.reduceAdd];rfl),q0,q1,q2⟩
def zvd:Sh:=.struct [.str,(.int .i64)]
def yga (x:Edge):Prop:=x.name.size<big∧inI x.node
theorem ykk {t:T} (h:conf zvd t):∃ x:Edge,t=zo3 x∧yga x:=by
  obtain ⟨cs,rfl,x0,r0,rfl,h0,x1,r1,rfl,h1,rfl⟩:=h;obtain ⟨a0,rfl,q0⟩:=yip h0;obtain ⟨a1,rfl,q1⟩:=cf_i h1;exact ⟨⟨a0,a1⟩,by first | (simp only [zo3,T.cells,Sh.sz,Sh.szL,zvd,List.append_nil,List.cons_append,List.nil_append,List.append_assoc,Nat.add_zero,Nat.reduceAdd];done) | (simp only [zo3,T.cells,Sh.sz,Sh.szL,zvd,List.append_nil,List.cons_append,List.nil_append,List.append_assoc,Nat.add_zero,Nat.reduceAdd];rfl),q0,q1⟩
def yd6:Sh:=.struct [(.slice zvb),(.slice zvc),(.slice zvd)]
def yi7 (x:Net):Prop:=(x.nodes.length<big∧∀ y,y∈x.nodes→yf8 y)∧(x.links.length<big∧∀ y,y∈x.links→yf9 y)∧(x.edges.length<big∧∀ y,y∈x.edges→yga y)
theorem ymg {t:T} (h:conf yd6 t):∃ x:Net,t=eNet x∧yi7 x:=by
  obtain ⟨cs,rfl,x0,r0,rfl,h0,x1,r1,rfl,h1,x2,r2,rfl,h2,rfl⟩:=h;obtain ⟨a0,rfl,q0⟩:=zk7 (fun _ hh=>yki hh) h0;obtain ⟨a1,rfl,q1⟩:=zk7 (fun _ hh=>ykj hh) h1;obtain ⟨a2,rfl,q2⟩:=zk7 (fun _ hh=>ykk hh) h2;exact ⟨⟨a0,a1,a2⟩,by first | (simp only [eNet,za6,zo1,za7,zo2,za8,zo3,T.cells,Sh.sz,Sh.szL,yd6,zvb,zvc,zvd,List.append_nil,List.cons_append,List.nil_append,List.append_assoc,Nat.add_zero,Nat.reduceAdd];done) | (simp only [eNet,za6,zo1,za7,zo2,za8,zo3,T.cells,Sh.sz,Sh.szL,yd6,zvb,zvc,zvd,List.append_nil,List.cons_append,List.nil_append,List.append_assoc,Nat.add_zero,Nat.reduceAdd];rfl),q0,q1,q2⟩
def z7j:Sh:=.struct [(.int .i64),zxt]
def yky (x:Alt):Prop:=inI x.link∧yi6 x.mod
theorem ymh {t:T} (h:conf z7j t):∃ x:Alt,t=eAlt x∧yky x:=by
  obtain ⟨cs,rfl,x0,r0,rfl,h0,x1,r1,rfl,h1,rfl⟩:=h;obtain ⟨a0,rfl,q0⟩:=cf_i h0;obtain ⟨a1,rfl,q1⟩:=yiq h1;exact ⟨⟨a0,a1⟩,by first | (simp only [eAlt,ePat,T.cells,Sh.sz,Sh.szL,z7j,zxt,List.append_nil,List.cons_append,List.nil_append,List.append_assoc,Nat.add_zero,Nat.reduceAdd];done) | (simp only [eAlt,ePat,T.cells,Sh.sz,Sh.szL,z7j,zxt,List.append_nil,List.cons_append,List.nil_append,List.append_assoc,Nat.add_zero,Nat.reduceAdd];rfl),q0,q1⟩
def zzn:Sh:=.struct [(.int .i64),zxt,(.int .i64),(.slice (.slice z7j))]
def zy8 (x:Rule):Prop:=inI x.prio∧yi6 x.mat∧inI x.step∧(x.outs.length<big∧∀ y,y∈x.outs→(y.length<big∧∀ y',y'∈y→yky y'))
theorem yda {t:T} (h:conf zzn t):∃ x:Rule,t=zas x∧zy8 x:=by
  obtain ⟨cs,rfl,x0,r0,rfl,h0,x1,r1,rfl,h1,x2,r2,rfl,h2,x3,r3,rfl,h3,rfl⟩:=h;obtain ⟨a0,rfl,q0⟩:=cf_i h0;obtain ⟨a1,rfl,q1⟩:=yiq h1;obtain ⟨a2,rfl,q2⟩:=cf_i h2;obtain ⟨a3,rfl,q3⟩:=zk7 (fun _ hh=>zk7 (fun _ hh=>ymh hh) hh) h3;exact ⟨⟨a0,a1,a2,a3⟩,by first | (simp only [zas,ePat,za4,lAlt,eAlt,T.cells,Sh.sz,Sh.szL,zzn,zxt,z7j,List.append_nil,List.cons_append,List.nil_append,List.append_assoc,Nat.add_zero,Nat.reduceAdd];done) | (simp only [zas,ePat,za4,lAlt,eAlt,T.cells,Sh.sz,Sh.szL,zzn,zxt,z7j,List.append_nil,List.cons_append,List.nil_append,List.append_assoc,Nat.add_zero,Nat.reduceAdd];rfl),q0,q1,q2,q3⟩
end
section
open Go Go.RowKit
set_option maxRecDepth 100000
def zbv (k:Nat) (h_:Ar 10):Nat→Int→Option (Bool ⊕ Unit)
 |0,_=>none
 |m+1,i=>(if i<10 then (if (0:Int)≤i∧i<(10:Int) then (if (gx h_.l i)<0 then some (.inl false) else (if 65535<(gx h_.l i) then some (.inl false) else zbv k h_ m (IntKind.i64.wrap (i+1)))) else none) else some (.inr ()))
def zdw (k:Nat) (h_:Ar 10):Option Bool:=((zbv k h_ k 0:Option (Bool ⊕ Unit)).bind fun o=>Sum.elim (fun r=>some r) (fun s_=>some true) o)
set_option maxHeartbeats 8000000 in
theorem zhm (ax:Axs) (hx:zbx ax) (k:Nat) (h_:Ar 10) (v:Bool) (H:zdw k h_=some v):Pure Tryz.prog (EE ax) [] 22 [.agg (h_.l.map (T.int .i64))] (.bool v):=by
 rw [zdw] at H;refine en [.tmp 2] 18 [0] (hx.no _ (by decide)) (fn22 ax) ?_;intro h hh;repeat apply TW.seq
 refine rk [1] [] hh ?_;clear hh h;intro h hh;repeat apply TW.seq
 refine rk [1,3] [] hh ?_;clear hh h;intro h hh;obtain ⟨o,H1,H⟩:=zad H;repeat apply TW.seq
 refine cu [] 1 (fun h bs=>∃ s_:Unit,o=.inr s_∧(True)∧bs=[.cells true 10 (h_.l.map (T.int .i64))]) ?_ ?_
 ·skip;repeat apply TW.seq
  apply TW.block;repeat apply TW.seq
  refine TW.loopT [1,3] (fun m h bs=>∃ (i:Int),zbv k h_ m i=some o∧(h 1=.ptr 0 0 10∧h 3=.int .i64 i)∧bs=[.cells true 10 (h_.l.map (T.int .i64))]) ?_ k _ _ ?_;rotate_left
  ·exact ⟨0,H1,kq hh,rfl⟩
  clear hh h H1;rintro m h bs ⟨i,H1,hh,rfl⟩;rcases m with _|m
  ·rw [zbv] at H1;cases H1
  rw [zbv] at H1;repeat apply TW.seq
  refine rk [1,3,5] [] hh ?_;clear hh h;intro h hh;rcases isp H1 with ⟨c1,H1⟩|⟨c1,H1⟩;rotate_left
  ·skip;repeat apply TW.seq
   refine cf (f2 hh (decide_eq_false c1)) ?_;refine xk ?_;cases H1;exact ce hh ⟨_,rfl,kq hh,rfl⟩
  repeat apply TW.seq
  refine ct (f2 hh (decide_eq_true c1)) ?_;repeat apply TW.seq
  refine sk ?_;repeat apply TW.seq
  apply TW.block;obtain ⟨g2,H1⟩:=isg H1;rcases isp H1 with ⟨c3,H1⟩|⟨c3,H1⟩;rotate_left
  ·skip;repeat apply TW.seq
   refine rk [1,3,17] [] (f3 hh (decide_eq_false c3) (arIx h_ g2)) ?_;clear hh h;intro h hh;rcases isp H1 with ⟨c4,H1⟩|⟨c4,H1⟩;rotate_left
   ·skip;repeat apply TW.seq
    refine cf (f2 hh (decide_eq_false c4)) ?_;repeat apply TW.seq
    refine sk ?_;repeat apply TW.seq
    refine rk [1,3] [] hh ?_;clear hh h;intro h hh;exact rd m hh ⟨(IntKind.i64.wrap (i+1)),H1,kq hh,rfl⟩
   repeat apply TW.seq
   refine ct (f2 hh (decide_eq_true c4)) ?_;repeat apply TW.seq
   refine rk [2] [] hh ?_;clear hh h;intro h hh;cases H1;obtain rfl:=sinl H;exact rt hh
  repeat apply TW.seq
  refine rk [1,3,17] [] (f3 hh (decide_eq_true c3) (arIx h_ g2)) ?_;clear hh h;intro h hh;repeat apply TW.seq
  refine ct hh ?_;repeat apply TW.seq
  refine rk [2] [] hh ?_;clear hh h;intro h hh;cases H1;obtain rfl:=sinl H;exact rt hh
 clear hh h;rintro h bs ⟨s_,rfl,hh,rfl⟩;replace H:=sinr H;repeat apply TW.seq
 refine rk [2] [] hh ?_;clear hh h;intro h hh;cases H;exact rt hh
def zda (k:Nat) (b:Ar 10) (m_:Ar 10):Nat→Int→Option (Bool ⊕ Unit)
 |0,_=>none
 |m+1,i=>(if i<10 then (if (0:Int)≤i∧i<(10:Int) then (if (iAnd .i64 (gx b.l i) (gx m_.l i))≠(gx b.l i) then some (.inl false) else zda k b m_ m (IntKind.i64.wrap (i+1))) else none) else some (.inr ()))
def ziz (k:Nat) (b:Ar 10) (m_:Ar 10):Option Bool:=((zda k b m_ k 0:Option (Bool ⊕ Unit)).bind fun o=>Sum.elim (fun r=>some r) (fun s_=>some true) o)
set_option maxHeartbeats 8000000 in
theorem zui (ax:Axs) (hx:zbx ax) (k:Nat) (b:Ar 10) (m_:Ar 10) (v:Bool) (H:ziz k b m_=some v):Pure Tryz.prog (EE ax) [] 136 [.agg (b.l.map (T.int .i64)),.agg (m_.l.map (T.int .i64))] (.bool v):=by
 rw [ziz] at H;refine en [.tmp 4] 21 [0,1] (hx.no _ (by decide)) (fn136 ax) ?_;intro h hh;repeat apply TW.seq
 refine rk [2,3] [] hh ?_;clear hh h;intro h hh;repeat apply TW.seq
 refine rk [2,3,5] [] hh ?_;clear hh h;intro h hh;obtain ⟨o,H1,H⟩:=zad H;repeat apply TW.seq
 refine cu [] 2 (fun h bs=>∃ s_:Unit,o=.inr s_∧(True)∧bs=[.cells true 10 (b.l.map (T.int .i64)),.cells true 10 (m_.l.map (T.int .i64))]) ?_ ?_
 ·skip;repeat apply TW.seq
  apply TW.block;repeat apply TW.seq
  refine TW.loopT [2,3,5] (fun m h bs=>∃ (i:Int),zda k b m_ m i=some o∧(h 2=.ptr 0 0 10∧h 3=.ptr 1 0 10∧h 5=.int .i64 i)∧bs=[.cells true 10 (b.l.map (T.int .i64)),.cells true 10 (m_.l.map (T.int .i64))]) ?_ k _ _ ?_;rotate_left
  ·exact ⟨0,H1,kq hh,rfl⟩
  clear hh h H1;rintro m h bs ⟨i,H1,hh,rfl⟩;rcases m with _|m
  ·rw [zda] at H1;cases H1
  rw [zda] at H1;repeat apply TW.seq
  refine rk [2,3,5,7] [] hh ?_;clear hh h;intro h hh;rcases isp H1 with ⟨c1,H1⟩|⟨c1,H1⟩;rotate_left
  ·skip;repeat apply TW.seq
   refine cf (f2 hh (decide_eq_false c1)) ?_;refine xk ?_;cases H1;exact ce hh ⟨_,rfl,kq hh,rfl⟩
  repeat apply TW.seq
  refine ct (f2 hh (decide_eq_true c1)) ?_;repeat apply TW.seq
  refine sk ?_;repeat apply TW.seq
  apply TW.block;obtain ⟨g2,H1⟩:=isg H1;repeat apply TW.seq
  refine dk 10 [2,3,5,20] [] [] [] (f3 hh (arIx b g2) (arIx m_ g2)) trivial trivial ?_;clear hh h;intro h hh;rcases isp H1 with ⟨c3,H1⟩|⟨c3,H1⟩;rotate_left
  ·skip;repeat apply TW.seq
   refine cf (f2 hh (decide_eq_false c3)) ?_;repeat apply TW.seq
   refine sk ?_;repeat apply TW.seq
   refine rk [2,3,5] [] hh ?_;clear hh h;intro h hh;exact rd m hh ⟨(IntKind.i64.wrap (i+1)),H1,kq hh,rfl⟩
  repeat apply TW.seq
  refine ct (f2 hh (decide_eq_true c3)) ?_;repeat apply TW.seq
  refine rk [4] [] hh ?_;clear hh h;intro h hh;cases H1;obtain rfl:=sinl H;exact rt hh
 clear hh h;rintro h bs ⟨s_,rfl,hh,rfl⟩;replace H:=sinr H;repeat apply TW.seq
 refine rk [4] [] hh ?_;clear hh h;intro h hh;cases H;exact rt hh
def zhn (k:Nat) (p:Pat):Option Bool:=((zdw k p.mask).bind fun rRightHead=>((zdw k p.bits).bind fun rRightHead2=>(if rRightHead=true then (if rRightHead2=true then ((ziz k p.bits p.mask).bind fun rwithin=>some rwithin) else some false) else some false)))
set_option maxHeartbeats 8000000 in
theorem zkq (ax:Axs) (hx:zbx ax) (k:Nat) (p:Pat) (v:Bool) (H:zhn k p=some v):Pure Tryz.prog (EE ax) [] 108 [ePat p] (.bool v):=by
 rw [zhn] at H;refine en [.tmp 2] 22 [0] (hx.no _ (by decide)) (fn108 ax) ?_;intro h hh;repeat apply TW.seq
 refine rk [1] [] hh ?_;clear hh h;intro h hh;obtain ⟨rRightHead,e1,H⟩:=zad H;repeat apply TW.seq
 refine rkc [1,3] [] [(.bool rRightHead,stL [.cells true 20 (p.mask.l.map (T.int .i64)++(p.bits.l.map (T.int .i64)))])] hh ?_ ?_
 ·exact ⟨zaj.call ((zhm ax hx k p.mask rRightHead e1 ).call _),trivial⟩
 clear hh h;intro h hh;obtain ⟨rRightHead2,e2,H⟩:=zad H;repeat apply TW.seq
 refine rkc [1,3,4] [] [(.bool rRightHead2,stL [.cells true 20 (p.mask.l.map (T.int .i64)++(p.bits.l.map (T.int .i64)))])] hh ?_ ?_
 ·exact ⟨zaj.call ((zhm ax hx k p.bits rRightHead2 e2 ).call _),trivial⟩
 clear hh h;intro h hh;rcases isb H with ⟨c3,H⟩|⟨c3,H⟩;rotate_left
 ·skip;repeat apply TW.seq
  refine rk [2] [] (f2 hh c3) ?_;clear hh h;intro h hh;cases H;exact rt hh
 rcases isb H with ⟨c4,H⟩|⟨c4,H⟩;rotate_left
 ·skip;repeat apply TW.seq
  refine rk [2] [] (f3 hh c3 c4) ?_;clear hh h;intro h hh;cases H;exact rt hh
 obtain ⟨rwithin,e5,H⟩:=zad H;repeat apply TW.seq
 refine rkc [2] [] [(.bool rwithin,stL [.cells true 20 (p.mask.l.map (T.int .i64)++(p.bits.l.map (T.int .i64)))])] (f3 hh c3 c4) ?_ ?_
 ·exact ⟨zaj.call (Pure.clr (zui ax hx k p.bits p.mask rwithin e5 ) (by first|rfl|simp only [c3,c4])),trivial⟩
 clear hh h;intro h hh;cases H;exact rt hh
def zgy (k:Nat) (m_:Pat):Option Bool:=((zhn k (⟨m_.mask,m_.bits⟩:Pat)).bind fun rRight=>some rRight)
set_option maxHeartbeats 8000000 in
theorem zqx (ax:Axs) (hx:zbx ax) (k:Nat) (m_:Pat) (v:Bool) (H:zgy k m_=some v):Pure Tryz.prog (EE ax) [] 109 [ePat m_] (.bool v):=by
 rw [zgy] at H;refine en [.tmp 2] 9 [0] (hx.no _ (by decide)) (fn109 ax) ?_;intro h hh;repeat apply TW.seq
 refine rk [1] [] hh ?_;clear hh h;intro h hh;obtain ⟨rRight,e1,H⟩:=zad H;repeat apply TW.seq
 refine rkc [2] [] [(.bool rRight,stL [.cells true 20 (m_.mask.l.map (T.int .i64)++(m_.bits.l.map (T.int .i64)))])] hh ?_ ?_
 ·exact ⟨zaj.call ((zkq ax hx k (⟨m_.mask,m_.bits⟩:Pat) rRight e1 ).call _),trivial⟩
 clear hh h;intro h hh;cases H;exact rt hh
end
section
open Go Go.RowKit
set_option maxRecDepth 100000
end
section
open Go Go.RowKit
set_option maxRecDepth 100000
def zc8 (k:Nat) (n:Net) (r:Rule) (k_:Int):Nat→Int→Option (Bool ⊕ Unit)
 |0,_=>none
 |m+1,i=>(if (0:Int)≤k_∧k_<(r.outs.length:Int) then (if i<((gx r.outs k_).length:Int) then (if (0:Int)≤i∧i<((gx r.outs k_).length:Int) then ((zgy k ((gx (gx r.outs k_) i).mod)).bind fun rRightMod=>(if ((gx (gx r.outs k_) i).link)<(-1) then some (.inl false) else (if (n.links.length:Int)≤((gx (gx r.outs k_) i).link) then some (.inl false) else (if rRightMod=true then zc8 k n r k_ m (IntKind.i64.wrap (i+1)) else some (.inl false))))) else none) else some (.inr ())) else none)
def zc9 (k:Nat) (n:Net) (r:Rule):Nat→Int→Option (Bool ⊕ Unit)
 |0,_=>none
 |m+1,k_=>(if k_<(r.outs.length:Int) then (((((if (0:Int)≤k_∧k_<(r.outs.length:Int) then (if ((gx r.outs k_).length:Int)<1 then some true else some (decide (8<((gx r.outs k_).length:Int)))) else none):Option Bool).bind fun s_4=>(if s_4=true then some (.inl false) else ((zc8 k n r k_ k 0:Option (Bool ⊕ Unit)).bind fun o=>Sum.elim (fun r=>some (.inl r)) (fun s_5=>some (.inr ())) o))):Option (Bool ⊕ Unit)).bind fun o2=>Sum.elim (fun r=>some (.inl r)) (fun s_3=>zc9 k n r m (IntKind.i64.wrap (k_+1))) o2) else some (.inr ()))
def ziy (k:Nat) (n:Net) (steps:Int) (r:Rule):Option Bool:=((zhn k r.mat).bind fun rRight=>(((if r.prio<1 then some true else (if 65535<r.prio then some true else (if rRight=true then (if r.step<(-1) then some true else (if steps≤r.step then some true else some (decide (16<(r.outs.length:Int))))) else some true))):Option Bool).bind fun s_=>(if s_=true then some false else ((zc9 k n r k 0:Option (Bool ⊕ Unit)).bind fun o3=>Sum.elim (fun r=>some r) (fun s_2=>some true) o3))))
set_option maxHeartbeats 8000000 in
theorem zug (ax:Axs) (hx:zbx ax) (k:Nat) (n:Net) (steps:Int) (r:Rule) (v:Bool) (H:ziy k n steps r=some v):Pure Tryz.prog (EE ax) [] 52 [eNet n,.int .i64 steps,zas r] (.bool v):=by
 rw [ziy] at H;refine en [.tmp 6] 103 [0,1,2] (hx.no _ (by decide)) (fn52 ax) ?_;intro h hh;repeat apply TW.seq
 refine rk [1,3,5] [] hh ?_;clear hh h;intro h hh;obtain ⟨rRight,e1,H⟩:=zad H;repeat apply TW.seq
 refine rkc [1,3,5,7] [] [(.bool rRight,stL [.cells true 3 [za6 n.nodes,za7 n.links,za8 n.edges],.cells true 23 (T.int .i64 r.prio :: (r.mat.mask.l.map (T.int .i64)++(r.mat.bits.l.map (T.int .i64)++[T.int .i64 r.step,za4 r.outs])))])] hh ?_ ?_
 ·exact ⟨zaj.call ((zkq ax hx k r.mat rRight e1 ).call _),trivial⟩
 clear hh h;intro h hh;obtain ⟨s_,H1,H⟩:=zad H;repeat apply TW.seq
 refine cu [3,5,43] 2 (fun h bs=>(h 3=.ptr 0 0 3∧h 5=.ptr 1 0 23∧h 43=.bool s_)∧bs=[.cells true 3 [za6 n.nodes,za7 n.links,za8 n.edges],.cells true 23 (T.int .i64 r.prio :: (r.mat.mask.l.map (T.int .i64)++(r.mat.bits.l.map (T.int .i64)++[T.int .i64 r.step,za4 r.outs])))]) ?_ ?_
 ·skip;rcases isp H1 with ⟨c2,H1⟩|⟨c2,H1⟩;rotate_left
  ·skip;rcases isp H1 with ⟨c3,H1⟩|⟨c3,H1⟩;rotate_left
   ·skip;rcases isb H1 with ⟨c4,H1⟩|⟨c4,H1⟩;rotate_left
    ·skip;repeat apply TW.seq
     refine rk [3,5,43] [] (f3 hh (decide_eq_false c2) (f2 (decide_eq_false c3) c4)) ?_;clear hh h;intro h hh;cases H1;exact ce hh ⟨kq hh,rfl⟩
    rcases isp H1 with ⟨c5,H1⟩|⟨c5,H1⟩;rotate_left
    ·skip;rcases isp H1 with ⟨c6,H1⟩|⟨c6,H1⟩;rotate_left
     ·skip;repeat apply TW.seq
      refine rk [3,5,43] [] (f3 hh (decide_eq_false c2) (f3 (decide_eq_false c3) c4 (f2 (decide_eq_false c5) (decide_eq_false c6)))) ?_;clear hh h;intro h hh;cases H1;exact ce hh ⟨kq hh,rfl⟩
     repeat apply TW.seq
     refine rk [3,5,43] [] (f3 hh (decide_eq_false c2) (f3 (decide_eq_false c3) c4 (f2 (decide_eq_false c5) (decide_eq_true c6)))) ?_;clear hh h;intro h hh;cases H1;exact ce hh ⟨kq hh,rfl⟩
    repeat apply TW.seq
    refine rk [3,5,43] [] (f3 hh (decide_eq_false c2) (f3 (decide_eq_false c3) c4 (decide_eq_true c5))) ?_;clear hh h;intro h hh;cases H1;exact ce hh ⟨kq hh,rfl⟩
   repeat apply TW.seq
   refine rk [3,5,43] [] (f3 hh (decide_eq_false c2) (decide_eq_true c3)) ?_;clear hh h;intro h hh;cases H1;exact ce hh ⟨kq hh,rfl⟩
  repeat apply TW.seq
  refine rk [3,5,43] [] (f2 hh (decide_eq_true c2)) ?_;clear hh h;intro h hh;cases H1;exact ce hh ⟨kq hh,rfl⟩
 clear hh h;rintro h bs ⟨hh,rfl⟩;rcases isb H with ⟨c7,H⟩|⟨c7,H⟩;rotate_left
 ·skip;repeat apply TW.seq
  refine cf (f2 hh c7) ?_;repeat apply TW.seq
  refine sk ?_;repeat apply TW.seq
  refine rk [3,5,8] [] (f2 hh c7) ?_;clear hh h;intro h hh;obtain ⟨o3,H1,H⟩:=zad H;repeat apply TW.seq
  refine cu [] 2 (fun h bs=>∃ s_2:Unit,o3=.inr s_2∧(True)∧bs=[.cells true 3 [za6 n.nodes,za7 n.links,za8 n.edges],.cells true 23 (T.int .i64 r.prio :: (r.mat.mask.l.map (T.int .i64)++(r.mat.bits.l.map (T.int .i64)++[T.int .i64 r.step,za4 r.outs])))]) ?_ ?_
  ·skip;repeat apply TW.seq
   apply TW.block;repeat apply TW.seq
   refine TW.loopT [3,5,8] (fun m h bs=>∃ (k_:Int),zc9 k n r m k_=some o3∧(h 3=.ptr 0 0 3∧h 5=.ptr 1 0 23∧h 8=.int .i64 k_)∧bs=[.cells true 3 [za6 n.nodes,za7 n.links,za8 n.edges],.cells true 23 (T.int .i64 r.prio :: (r.mat.mask.l.map (T.int .i64)++(r.mat.bits.l.map (T.int .i64)++[T.int .i64 r.step,za4 r.outs])))]) ?_ k _ _ ?_;rotate_left
   ·exact ⟨0,H1,kq hh,rfl⟩
   clear hh h H1;rintro m h bs ⟨k_,H1,hh,rfl⟩;rcases m with _|m
   ·rw [zc9] at H1;cases H1
   rw [zc9] at H1;repeat apply TW.seq
   refine rk [3,5,8,48] [] (f2 hh c7) ?_;clear hh h;intro h hh;rcases isp H1 with ⟨c8,H1⟩|⟨c8,H1⟩;rotate_left
   ·skip;repeat apply TW.seq
    refine cf (f2 hh (decide_eq_false c8)) ?_;refine xk ?_;cases H1;exact ce hh ⟨_,rfl,kq hh,rfl⟩
   repeat apply TW.seq
   refine ct (f2 hh (decide_eq_true c8)) ?_;repeat apply TW.seq
   refine sk ?_;obtain ⟨o2,H2,H1⟩:=zad H1;repeat apply TW.seq
   refine cu [3,5,8] 2 (fun h bs=>∃ s_3:Unit,o2=.inr s_3∧(h 3=.ptr 0 0 3∧h 5=.ptr 1 0 23∧h 8=.int .i64 k_)∧bs=[.cells true 3 [za6 n.nodes,za7 n.links,za8 n.edges],.cells true 23 (T.int .i64 r.prio :: (r.mat.mask.l.map (T.int .i64)++(r.mat.bits.l.map (T.int .i64)++[T.int .i64 r.step,za4 r.outs])))]) ?_ ?_
   ·skip;repeat apply TW.seq
    apply TW.block;obtain ⟨s_4,H3,H2⟩:=zad H2;repeat apply TW.seq
    refine cu [3,5,8,66] 2 (fun h bs=>(h 3=.ptr 0 0 3∧h 5=.ptr 1 0 23∧h 8=.int .i64 k_∧h 66=.bool s_4)∧bs=[.cells true 3 [za6 n.nodes,za7 n.links,za8 n.edges],.cells true 23 (T.int .i64 r.prio :: (r.mat.mask.l.map (T.int .i64)++(r.mat.bits.l.map (T.int .i64)++[T.int .i64 r.step,za4 r.outs])))]) ?_ ?_
    ·skip;obtain ⟨g9,H3⟩:=isg H3;rcases isp H3 with ⟨c10,H3⟩|⟨c10,H3⟩;rotate_left
     ·skip;repeat apply TW.seq
      refine rk [3,5,8,66] [] (f3 hh (decide_eq_false c10) (f2 c7 (zal g9))) ?_;clear hh h;intro h hh;cases H3;exact ce hh ⟨kq hh,rfl⟩
     repeat apply TW.seq
     refine rk [3,5,8,66] [] (f3 hh (decide_eq_true c10) (f2 c7 (zal g9))) ?_;clear hh h;intro h hh;cases H3;exact ce hh ⟨kq hh,rfl⟩
    clear hh h;rintro h bs ⟨hh,rfl⟩;rcases isb H2 with ⟨c11,H2⟩|⟨c11,H2⟩;rotate_left
    ·skip;repeat apply TW.seq
     refine cf (f2 hh c11) ?_;repeat apply TW.seq
     refine sk ?_;repeat apply TW.seq
     refine rk [3,5,8,9] [] (f3 hh c7 c11) ?_;clear hh h;intro h hh;obtain ⟨o,H3,H2⟩:=zad H2;repeat apply TW.seq
     refine cu [3,5,8] 2 (fun h bs=>∃ s_5:Unit,o=.inr s_5∧(h 3=.ptr 0 0 3∧h 5=.ptr 1 0 23∧h 8=.int .i64 k_)∧bs=[.cells true 3 [za6 n.nodes,za7 n.links,za8 n.edges],.cells true 23 (T.int .i64 r.prio :: (r.mat.mask.l.map (T.int .i64)++(r.mat.bits.l.map (T.int .i64)++[T.int .i64 r.step,za4 r.outs])))]) ?_ ?_
     ·skip;repeat apply TW.seq
      apply TW.block;repeat apply TW.seq
      refine TW.loopT [3,5,8,9] (fun m h bs=>∃ (i:Int),zc8 k n r k_ m i=some o∧(h 3=.ptr 0 0 3∧h 5=.ptr 1 0 23∧h 8=.int .i64 k_∧h 9=.int .i64 i)∧bs=[.cells true 3 [za6 n.nodes,za7 n.links,za8 n.edges],.cells true 23 (T.int .i64 r.prio :: (r.mat.mask.l.map (T.int .i64)++(r.mat.bits.l.map (T.int .i64)++[T.int .i64 r.step,za4 r.outs])))]) ?_ k _ _ ?_;rotate_left
      ·exact ⟨0,H3,kq hh,rfl⟩
      clear hh h H3;rintro m h bs ⟨i,H3,hh,rfl⟩;rcases m with _|m
      ·rw [zc8] at H3;cases H3
      rw [zc8] at H3;obtain ⟨g12,H3⟩:=isg H3;repeat apply TW.seq
      refine rk [3,5,8,9,74] [] (f3 hh c7 (f2 c11 (zal g12))) ?_;clear hh h;intro h hh;rcases isp H3 with ⟨c13,H3⟩|⟨c13,H3⟩;rotate_left
      ·skip;repeat apply TW.seq
       refine cf (f2 hh (decide_eq_false c13)) ?_;refine xk ?_;cases H3;exact ce hh ⟨_,rfl,kq hh,rfl⟩
      repeat apply TW.seq
      refine ct (f2 hh (decide_eq_true c13)) ?_;repeat apply TW.seq
      refine sk ?_;repeat apply TW.seq
      apply TW.block;obtain ⟨g14,H3⟩:=isg H3;repeat apply TW.seq
      refine rk [3,5,8,9,10] [] (f3 hh c7 (f3 c11 (zal g12) (zal g14))) ?_;clear hh h;intro h hh;obtain ⟨rRightMod,e15,H3⟩:=zad H3;repeat apply TW.seq
      refine rkc [3,5,8,9,10,11] [] [(.bool rRightMod,stL [.cells true 3 [za6 n.nodes,za7 n.links,za8 n.edges],.cells true 23 (T.int .i64 r.prio :: (r.mat.mask.l.map (T.int .i64)++(r.mat.bits.l.map (T.int .i64)++[T.int .i64 r.step,za4 r.outs]))),.cells true 21 (T.int .i64 ((gx (gx r.outs k_) i).link) :: ((((gx (gx r.outs k_) i).mod).mask).l.map (T.int .i64)++((((gx (gx r.outs k_) i).mod).bits).l.map (T.int .i64))))])] (f3 hh c7 c11) ?_ ?_
      ·exact ⟨zaj.call (Pure.clr (zqx ax hx k ((gx (gx r.outs k_) i).mod) rRightMod e15 ) (by first|rfl|simp only [c7,c11])),trivial⟩
      clear hh h;intro h hh;rcases isp H3 with ⟨c16,H3⟩|⟨c16,H3⟩;rotate_left
      ·skip;rcases isp H3 with ⟨c17,H3⟩|⟨c17,H3⟩;rotate_left
       ·skip;repeat apply TW.seq
        refine rk [3,5,8,9,102] [] (f3 hh (decide_eq_false c16) (f3 (decide_eq_false c17) c7 c11)) ?_;clear hh h;intro h hh;rcases isb H3 with ⟨c18,H3⟩|⟨c18,H3⟩;rotate_left
        ·skip;repeat apply TW.seq
         refine ct (f2 hh c18) ?_;repeat apply TW.seq
         refine rk [6] [] (f3 hh c7 (f2 c11 c18)) ?_;clear hh h;intro h hh;cases H3;obtain rfl:=sinm H2;obtain rfl:=sinm H1;obtain rfl:=sinl H;exact rt hh
        repeat apply TW.seq
        refine cf (f2 hh c18) ?_;repeat apply TW.seq
        refine sk ?_;repeat apply TW.seq
        refine rk [3,5,8,9] [] (f3 hh c7 (f2 c11 c18)) ?_;clear hh h;intro h hh;exact rd m hh ⟨(IntKind.i64.wrap (i+1)),H3,kq hh,rfl⟩
       repeat apply TW.seq
       refine rk [3,5,8,9,102] [] (f3 hh (decide_eq_false c16) (f3 (decide_eq_true c17) c7 c11)) ?_;clear hh h;intro h hh;repeat apply TW.seq
       refine ct hh ?_;repeat apply TW.seq
       refine rk [6] [] (f3 hh c7 c11) ?_;clear hh h;intro h hh;cases H3;obtain rfl:=sinm H2;obtain rfl:=sinm H1;obtain rfl:=sinl H;exact rt hh
      repeat apply TW.seq
      refine rk [3,5,8,9,102] [] (f3 hh (decide_eq_true c16) (f2 c7 c11)) ?_;clear hh h;intro h hh;repeat apply TW.seq
      refine ct hh ?_;repeat apply TW.seq
      refine rk [6] [] (f3 hh c7 c11) ?_;clear hh h;intro h hh;cases H3;obtain rfl:=sinm H2;obtain rfl:=sinm H1;obtain rfl:=sinl H;exact rt hh
     clear hh h;rintro h bs ⟨s_5,rfl,hh,rfl⟩;replace H2:=sinr H2;cases H2;exact ce hh ⟨_,rfl,kq hh,rfl⟩
    repeat apply TW.seq
    refine ct (f2 hh c11) ?_;repeat apply TW.seq
    refine rk [6] [] (f3 hh c7 c11) ?_;clear hh h;intro h hh;cases H2;obtain rfl:=sinm H1;obtain rfl:=sinl H;exact rt hh
   clear hh h;rintro h bs ⟨s_3,rfl,hh,rfl⟩;replace H1:=sinr H1;repeat apply TW.seq
   refine rk [3,5,8] [] (f2 hh c7) ?_;clear hh h;intro h hh;exact rd m hh ⟨(IntKind.i64.wrap (k_+1)),H1,kq hh,rfl⟩
  clear hh h;rintro h bs ⟨s_2,rfl,hh,rfl⟩;replace H:=sinr H;repeat apply TW.seq
  refine rk [6] [] (f2 hh c7) ?_;clear hh h;intro h hh;cases H;exact rt hh
 repeat apply TW.seq
 refine ct (f2 hh c7) ?_;repeat apply TW.seq
 refine rk [6] [] (f2 hh c7) ?_;clear hh h;intro h hh;cases H;exact rt hh
def zcn (k:Nat) (n:Net) (steps:Int) (t:List Rule):Nat→Int→Option ((Int×Int) ⊕ Unit)
 |0,_=>none
 |m+1,k_=>(if k_<(t.length:Int) then (if (0:Int)≤k_∧k_<(t.length:Int) then ((ziy k n steps (gx t k_)).bind fun rFormed=>(if rFormed=true then (if 0<k_ then (if (0:Int)≤(IntKind.i64.wrap (k_ - 1))∧(IntKind.i64.wrap (k_ - 1))<(t.length:Int) then (if ((gx t (IntKind.i64.wrap (k_ - 1))).prio)≤((gx t k_).prio) then some (.inl (k_,1)) else zcn k n steps t m (IntKind.i64.wrap (k_+1))) else none) else zcn k n steps t m (IntKind.i64.wrap (k_+1))) else some (.inl (k_,1)))) else none) else some (.inr ()))
def zj4 (k:Nat) (n:Net) (steps:Int) (t:List Rule):Option (Int×Int):=(((if steps<0 then some true else some (decide (1000<steps))):Option Bool).bind fun s_=>(if s_=true then some (0,1) else (if 4000<(t.length:Int) then some (0,2) else ((zcn k n steps t k 0:Option ((Int×Int) ⊕ Unit)).bind fun o=>Sum.elim (fun r=>some r) (fun s_2=>some (0,0)) o))))
set_option maxHeartbeats 8000000 in
theorem zxo (ax:Axs) (hx:zbx ax) (k:Nat) (n:Net) (steps:Int) (t:List Rule) (v:Int×Int) (H:zj4 k n steps t=some v):Pure Tryz.prog (EE ax) [] 14 [eNet n,.int .i64 steps,zao t] (tupT [.int .i64 v.1,.int .i64 v.2]):=by
 rw [zj4] at H;refine enN [.tmp 6,.tmp 7] 53 [0,1,2] (hx.no _ (by decide)) (fn14 ax) ?_;intro h hh;repeat apply TW.seq
 refine rk [1,2,3] [] hh ?_;clear hh h;intro h hh;obtain ⟨s_,H1,H⟩:=zad H;repeat apply TW.seq
 refine cu [1,2,3,15] 1 (fun h bs=>(h 1=.int .i64 steps∧h 2=zao t∧h 3=.ptr 0 0 3∧h 15=.bool s_)∧bs=[.cells true 3 [za6 n.nodes,za7 n.links,za8 n.edges]]) ?_ ?_
 ·skip;rcases isp H1 with ⟨c1,H1⟩|⟨c1,H1⟩;rotate_left
  ·skip;repeat apply TW.seq
   refine rk [1,2,3,15] [] (f2 hh (decide_eq_false c1)) ?_;clear hh h;intro h hh;cases H1;exact ce hh ⟨kq hh,rfl⟩
  repeat apply TW.seq
  refine rk [1,2,3,15] [] (f2 hh (decide_eq_true c1)) ?_;clear hh h;intro h hh;cases H1;exact ce hh ⟨kq hh,rfl⟩
 clear hh h;rintro h bs ⟨hh,rfl⟩;rcases isb H with ⟨c2,H⟩|⟨c2,H⟩;rotate_left
 ·skip;repeat apply TW.seq
  refine cf (f2 hh c2) ?_;repeat apply TW.seq
  refine sk ?_;repeat apply TW.seq
  refine rk [1,2,3,18] [] (f2 hh c2) ?_;clear hh h;intro h hh;rcases isp H with ⟨c3,H⟩|⟨c3,H⟩;rotate_left
  ·skip;repeat apply TW.seq
   refine cf (f2 hh (decide_eq_false c3)) ?_;repeat apply TW.seq
   refine sk ?_;repeat apply TW.seq
   refine rk [1,2,3,8] [] (f2 hh c2) ?_;clear hh h;intro h hh;obtain ⟨o,H1,H⟩:=zad H;repeat apply TW.seq
   refine cu [] 1 (fun h bs=>∃ s_2:Unit,o=.inr s_2∧(True)∧bs=[.cells true 3 [za6 n.nodes,za7 n.links,za8 n.edges]]) ?_ ?_
   ·skip;repeat apply TW.seq
    apply TW.block;repeat apply TW.seq
    refine TW.loopT [1,2,3,8] (fun m h bs=>∃ (k_:Int),zcn k n steps t m k_=some o∧(h 1=.int .i64 steps∧h 2=zao t∧h 3=.ptr 0 0 3∧h 8=.int .i64 k_)∧bs=[.cells true 3 [za6 n.nodes,za7 n.links,za8 n.edges]]) ?_ k _ _ ?_;rotate_left
    ·exact ⟨0,H1,kq hh,rfl⟩
    clear hh h H1;rintro m h bs ⟨k_,H1,hh,rfl⟩;rcases m with _|m
    ·rw [zcn] at H1;cases H1
    rw [zcn] at H1;repeat apply TW.seq
    refine rk [1,2,3,8,22] [] (f2 hh c2) ?_;clear hh h;intro h hh;rcases isp H1 with ⟨c4,H1⟩|⟨c4,H1⟩;rotate_left
    ·skip;repeat apply TW.seq
     refine cf (f2 hh (decide_eq_false c4)) ?_;refine xk ?_;cases H1;exact ce hh ⟨_,rfl,kq hh,rfl⟩
    repeat apply TW.seq
    refine ct (f2 hh (decide_eq_true c4)) ?_;repeat apply TW.seq
    refine sk ?_;repeat apply TW.seq
    apply TW.block;obtain ⟨g5,H1⟩:=isg H1;obtain ⟨rFormed,e6,H1⟩:=zad H1;repeat apply TW.seq
    refine dk 6 [1,2,3,8,9] [] [] [(.bool rFormed,stL [.cells true 3 [za6 n.nodes,za7 n.links,za8 n.edges]])] (f3 hh c2 (zal g5)) trivial ?_ ?_
    ·exact ⟨zaj.call (Pure.clr (zug ax hx k n steps (gx t k_) rFormed e6 ) (by first|rfl|simp only [c2])),trivial⟩
    clear hh h;intro h hh;rcases isb H1 with ⟨c7,H1⟩|⟨c7,H1⟩;rotate_left
    ·skip;repeat apply TW.seq
     refine dk 17 [1,2,3,8,51] [] [] [] (f3 hh c7 c2) trivial trivial ?_;clear hh h;intro h hh;repeat apply TW.seq
     refine ct hh ?_;repeat apply TW.seq
     refine rk [6,7] [] (f3 hh c2 c7) ?_;clear hh h;intro h hh;cases H1;obtain rfl:=sinl H;exact rt hh
    rcases isp H1 with ⟨c8,H1⟩|⟨c8,H1⟩;rotate_left
    ·skip;repeat apply TW.seq
     refine dk 17 [1,2,3,8,51] [] [] [] (f3 hh c7 (f2 (decide_eq_false c8) c2)) trivial trivial ?_;clear hh h;intro h hh;repeat apply TW.seq
     refine cf hh ?_;repeat apply TW.seq
     refine sk ?_;repeat apply TW.seq
     refine rk [1,2,3,8] [] (f3 hh c2 c7) ?_;clear hh h;intro h hh;exact rd m hh ⟨(IntKind.i64.wrap (k_+1)),H1,kq hh,rfl⟩
    obtain ⟨g9,H1⟩:=isg H1;repeat apply TW.seq
    refine dk 17 [1,2,3,8,51] [] [] [] (f3 hh c7 (f3 (decide_eq_true c8) c2 (f2 (zal g5) (zal g9)))) trivial trivial ?_;clear hh h;intro h hh;rcases isp H1 with ⟨c10,H1⟩|⟨c10,H1⟩;rotate_left
    ·skip;repeat apply TW.seq
     refine cf (f2 hh (decide_eq_false c10)) ?_;repeat apply TW.seq
     refine sk ?_;repeat apply TW.seq
     refine rk [1,2,3,8] [] (f3 hh c2 c7) ?_;clear hh h;intro h hh;exact rd m hh ⟨(IntKind.i64.wrap (k_+1)),H1,kq hh,rfl⟩
    repeat apply TW.seq
    refine ct (f2 hh (decide_eq_true c10)) ?_;repeat apply TW.seq
    refine rk [6,7] [] (f3 hh c2 c7) ?_;clear hh h;intro h hh;cases H1;obtain rfl:=sinl H;exact rt hh
   clear hh h;rintro h bs ⟨s_2,rfl,hh,rfl⟩;replace H:=sinr H;repeat apply TW.seq
   refine rk [6,7] [] (f2 hh c2) ?_;clear hh h;intro h hh;cases H;exact rt hh
  repeat apply TW.seq
  refine ct (f2 hh (decide_eq_true c3)) ?_;repeat apply TW.seq
  refine rk [6,7] [] (f2 hh c2) ?_;clear hh h;intro h hh;cases H;exact rt hh
 repeat apply TW.seq
 refine ct (f2 hh c2) ?_;repeat apply TW.seq
 refine rk [6,7] [] (f2 hh c2) ?_;clear hh h;intro h hh;cases H;exact rt hh
end
section
open Go Go.RowKit
set_option maxRecDepth 100000
def zap (k:Nat) (s1:List (List Alt)) (s2:List (List Alt)) (eq:(List Alt)→(List Alt)→Option Bool):Nat→Int→Option (Bool ⊕ Unit)
 |0,_=>none
 |m+1,i=>(if i<(s1.length:Int) then (if (0:Int)≤i∧i<(s1.length:Int) then (if (0:Int)≤i∧i<(s2.length:Int) then ((eq (gx s1 i) (gx s2 i)).bind fun r=>(if r=true then zap k s1 s2 eq m (IntKind.i64.wrap (i+1)) else some (.inl false))) else none) else none) else some (.inr ()))
def zcg (k:Nat) (s1:List (List Alt)) (s2:List (List Alt)) (eq:(List Alt)→(List Alt)→Option Bool):Option Bool:=(if (s1.length:Int)≠(s2.length:Int) then some false else ((zap k s1 s2 eq k 0:Option (Bool ⊕ Unit)).bind fun o=>Sum.elim (fun r=>some r) (fun s_=>some true) o))
set_option maxHeartbeats 8000000 in
theorem zjp (ax:Axs) (hx:zbx ax) (k:Nat) (s1:List (List Alt)) (s2:List (List Alt)) (eq:(List Alt)→(List Alt)→Option Bool) (v:Bool) (H:zcg k s1 s2 eq=some v) (eq_f:Nat) (eq_c:List T) (eq_i:T.idsL 0 eq_c=true) (eq_h:∀ (y0:List Alt) (y1:List Alt) (w:Bool),eq y0 y1=some w→Pure Tryz.prog (EE ax) [] eq_f ([]++[lAlt y0,lAlt y1]++eq_c) (.bool w)):Pure Tryz.prog (EE ax) [] 110 [za4 s1,za4 s2,.fn eq_f [] eq_c] (.bool v):=by
 rw [zcg] at H;refine en (ha:=by simp only [zb3,zcs,idsA,idsB,eq_i,Bool.and_self]) [.tmp 6] 32 [0,1,2] (hx.no _ (by decide)) (fn110 ax) ?_;intro h hh;repeat apply TW.seq
 refine rk [0,1,2] [] hh ?_;clear hh h;intro h hh;repeat apply TW.seq
 refine rk [0,1,2,14] [] hh ?_;clear hh h;intro h hh;rcases isp H with ⟨c1,H⟩|⟨c1,H⟩;rotate_left
 ·skip;repeat apply TW.seq
  refine cf (f2 hh (decide_eq_false c1)) ?_;repeat apply TW.seq
  refine sk ?_;repeat apply TW.seq
  refine rk [1,2,15,16,17] [] hh ?_;clear hh h;intro h hh;obtain ⟨o,H1,H⟩:=zad H;repeat apply TW.seq
  refine cu [] 0 (fun h bs=>∃ s_:Unit,o=.inr s_∧(True)∧bs=[]) ?_ ?_
  ·skip;repeat apply TW.seq
   apply TW.block;repeat apply TW.seq
   refine TW.loopT [1,2,15,16,17] (fun m h bs=>∃ (i:Int),zap k s1 s2 eq m i=some o∧(h 1=za4 s2∧h 2=.fn eq_f [] eq_c∧h 15=za4 s1∧h 16=.int .i64 (s1.length:Int)∧h 17=.int .i64 i)∧bs=[]) ?_ k _ _ ?_;rotate_left
   ·exact ⟨0,H1,kq hh,rfl⟩
   clear hh h H1;rintro m h bs ⟨i,H1,hh,rfl⟩;rcases m with _|m
   ·rw [zap] at H1;cases H1
   rw [zap] at H1;repeat apply TW.seq
   refine rk [1,2,15,16,17,18] [] hh ?_;clear hh h;intro h hh;rcases isp H1 with ⟨c2,H1⟩|⟨c2,H1⟩;rotate_left
   ·skip;repeat apply TW.seq
    refine cf (f2 hh (decide_eq_false c2)) ?_;refine xk ?_;cases H1;exact ce (f2 hh ((fun m=>zfm (Nat.zero_le m) eq_i))) ⟨_,rfl,kq hh,rfl⟩
   repeat apply TW.seq
   refine ct (f2 hh (decide_eq_true c2)) ?_;repeat apply TW.seq
   refine sk ?_;repeat apply TW.seq
   apply TW.block;obtain ⟨g3,H1⟩:=isg H1;repeat apply TW.seq
   refine rk [1,2,7,8,15,16,17] [] (f2 hh (zal g3)) ?_;clear hh h;intro h hh;obtain ⟨g4,H1⟩:=isg H1;repeat apply TW.seq
   refine rk [1,2,8,9,15,16,17] [] (f2 hh (zal g4)) ?_;clear hh h;intro h hh;obtain ⟨r,e5,H1⟩:=zad H1;repeat apply TW.seq
   refine rkc [1,2,15,16,17,30] [] [(.bool r,stL [])] hh ?_ ?_
   ·exact ⟨zaj.call ((eq_h (gx s1 i) (gx s2 i) r e5).call _),trivial⟩
   clear hh h;intro h hh;rcases isb H1 with ⟨c6,H1⟩|⟨c6,H1⟩;rotate_left
   ·skip;repeat apply TW.seq
    refine ct (f2 hh c6) ?_;repeat apply TW.seq
    refine rk [6] [] (f2 hh c6) ?_;clear hh h;intro h hh;cases H1;obtain rfl:=sinl H;exact rt hh
   repeat apply TW.seq
   refine cf (f2 hh c6) ?_;repeat apply TW.seq
   refine sk ?_;repeat apply TW.seq
   refine rk [1,2,15,16,17] [] (f2 hh c6) ?_;clear hh h;intro h hh;exact rd m (f2 hh ((fun m=>zfm (Nat.zero_le m) eq_i))) ⟨(IntKind.i64.wrap (i+1)),H1,kq hh,rfl⟩
  clear hh h;rintro h bs ⟨s_,rfl,hh,rfl⟩;replace H:=sinr H;repeat apply TW.seq
  refine rk [6] [] hh ?_;clear hh h;intro h hh;cases H;exact rt hh
 repeat apply TW.seq
 refine ct (f2 hh (decide_eq_true c1)) ?_;repeat apply TW.seq
 refine rk [6] [] hh ?_;clear hh h;intro h hh;cases H;exact rt hh
def zbc (k:Nat) (s1:List Alt) (s2:List Alt):Nat→Int→Option (Bool ⊕ Unit)
 |0,_=>none
 |m+1,i=>(if i<(s1.length:Int) then (if (0:Int)≤i∧i<(s1.length:Int) then (if (0:Int)≤i∧i<(s2.length:Int) then (if (gx s1 i)=(gx s2 i) then zbc k s1 s2 m (IntKind.i64.wrap (i+1)) else some (.inl false)) else none) else none) else some (.inr ()))
def zd7 (k:Nat) (s1:List Alt) (s2:List Alt):Option Bool:=(if (s1.length:Int)≠(s2.length:Int) then some false else ((zbc k s1 s2 k 0:Option (Bool ⊕ Unit)).bind fun o=>Sum.elim (fun r=>some r) (fun s_=>some true) o))
set_option maxHeartbeats 8000000 in
theorem zm1 (ax:Axs) (hx:zbx ax) (k:Nat) (s1:List Alt) (s2:List Alt) (v:Bool) (H:zd7 k s1 s2=some v):Pure Tryz.prog (EE ax) [] 112 [lAlt s1,lAlt s2] (.bool v):=by
 rw [zd7] at H;refine en [.tmp 4] 26 [0,1] (hx.no _ (by decide)) (fn112 ax) ?_;intro h hh;repeat apply TW.seq
 refine rk [0,1] [] hh ?_;clear hh h;intro h hh;repeat apply TW.seq
 refine rk [0,1,10] [] hh ?_;clear hh h;intro h hh;rcases isp H with ⟨c1,H⟩|⟨c1,H⟩;rotate_left
 ·skip;repeat apply TW.seq
  refine cf (f2 hh (decide_eq_false c1)) ?_;repeat apply TW.seq
  refine sk ?_;repeat apply TW.seq
  refine rk [0,1,12,13] [] hh ?_;clear hh h;intro h hh;obtain ⟨o,H1,H⟩:=zad H;repeat apply TW.seq
  refine cu [] 0 (fun h bs=>∃ s_:Unit,o=.inr s_∧(True)∧bs=[]) ?_ ?_
  ·skip;repeat apply TW.seq
   apply TW.block;repeat apply TW.seq
   refine TW.loopT [0,1,12,13] (fun m h bs=>∃ (i:Int),zbc k s1 s2 m i=some o∧(h 0=lAlt s1∧h 1=lAlt s2∧h 12=.int .i64 (s1.length:Int)∧h 13=.int .i64 i)∧bs=[]) ?_ k _ _ ?_;rotate_left
   ·exact ⟨0,H1,kq hh,rfl⟩
   clear hh h H1;rintro m h bs ⟨i,H1,hh,rfl⟩;rcases m with _|m
   ·rw [zbc] at H1;cases H1
   rw [zbc] at H1;repeat apply TW.seq
   refine rk [0,1,12,13,14] [] hh ?_;clear hh h;intro h hh;rcases isp H1 with ⟨c2,H1⟩|⟨c2,H1⟩;rotate_left
   ·skip;repeat apply TW.seq
    refine cf (f2 hh (decide_eq_false c2)) ?_;refine xk ?_;cases H1;exact ce hh ⟨_,rfl,kq hh,rfl⟩
   repeat apply TW.seq
   refine ct (f2 hh (decide_eq_true c2)) ?_;repeat apply TW.seq
   refine sk ?_;repeat apply TW.seq
   apply TW.block;repeat apply TW.seq
   refine rk [0,1,5,12,13] [] hh ?_;clear hh h;intro h hh;obtain ⟨g3,H1⟩:=isg H1;obtain ⟨g4,H1⟩:=isg H1;repeat apply TW.seq
   refine dk 8 [0,1,12,13,24] [] [] [] (f3 hh (zal g3) (f2 (zal g4) ((aq94 ax (gx s1 i) (gx s2 i)).2))) trivial trivial ?_;clear hh h;intro h hh;rcases isp H1 with ⟨c5,H1⟩|⟨c5,H1⟩;rotate_left
   ·skip;repeat apply TW.seq
    refine ct (f2 hh (decide_eq_false c5)) ?_;repeat apply TW.seq
    refine rk [4] [] hh ?_;clear hh h;intro h hh;cases H1;obtain rfl:=sinl H;exact rt hh
   repeat apply TW.seq
   refine cf (f2 hh (decide_eq_true c5)) ?_;repeat apply TW.seq
   refine sk ?_;repeat apply TW.seq
   refine rk [0,1,12,13] [] hh ?_;clear hh h;intro h hh;exact rd m hh ⟨(IntKind.i64.wrap (i+1)),H1,kq hh,rfl⟩
  clear hh h;rintro h bs ⟨s_,rfl,hh,rfl⟩;replace H:=sinr H;repeat apply TW.seq
  refine rk [4] [] hh ?_;clear hh h;intro h hh;cases H;exact rt hh
 repeat apply TW.seq
 refine ct (f2 hh (decide_eq_true c1)) ?_;repeat apply TW.seq
 refine rk [4] [] hh ?_;clear hh h;intro h hh;cases H;exact rt hh
def zf8 (k:Nat) (x:List Alt) (y:List Alt):Option Bool:=((zd7 k x y).bind fun rAlt=>some rAlt)
set_option maxHeartbeats 8000000 in
theorem zj0 (ax:Axs) (hx:zbx ax) (k:Nat) (x:List Alt) (y:List Alt) (v:Bool) (H:zf8 k x y=some v):Pure Tryz.prog (EE ax) [] 111 [lAlt x,lAlt y] (.bool v):=by
 rw [zf8] at H;refine en [.tmp 4] 8 [0,1] (hx.no _ (by decide)) (fn111 ax) ?_;intro h hh;repeat apply TW.seq
 refine rk [0,1] [] hh ?_;clear hh h;intro h hh;obtain ⟨rAlt,e1,H⟩:=zad H;repeat apply TW.seq
 refine rkc [4] [] [(.bool rAlt,stL [])] hh ?_ ?_
 ·exact ⟨zaj.call ((zm1 ax hx k x y rAlt e1 ).call _),trivial⟩
 clear hh h;intro h hh;cases H;exact rt hh
def zgp (k:Nat) (a:Rule) (b:Rule):Option Bool:=(if a.step=b.step then ((zcg k a.outs b.outs (fun y y2=>zf8 k y y2)).bind fun rLAlt=>some rLAlt) else some false)
set_option maxHeartbeats 8000000 in
theorem zls (ax:Axs) (hx:zbx ax) (k:Nat) (a:Rule) (b:Rule) (v:Bool) (H:zgp k a b=some v):Pure Tryz.prog (EE ax) [] 54 [zas a,zas b] (.bool v):=by
 rw [zgp] at H;refine en [.tmp 4] 17 [0,1] (hx.no _ (by decide)) (fn54 ax) ?_;intro h hh;repeat apply TW.seq
 refine rk [2,3] [] hh ?_;clear hh h;intro h hh;rcases isp H with ⟨c1,H⟩|⟨c1,H⟩;rotate_left
 ·skip;repeat apply TW.seq
  refine rk [4] [] (f2 hh (decide_eq_false c1)) ?_;clear hh h;intro h hh;cases H;exact rt hh
 obtain ⟨rLAlt,e2,H⟩:=zad H;repeat apply TW.seq
 refine rkc [4] [] [(.bool rLAlt,stL [.cells true 23 (T.int .i64 a.prio :: (a.mat.mask.l.map (T.int .i64)++(a.mat.bits.l.map (T.int .i64)++[T.int .i64 a.step,za4 a.outs]))),.cells true 23 (T.int .i64 b.prio :: (b.mat.mask.l.map (T.int .i64)++(b.mat.bits.l.map (T.int .i64)++[T.int .i64 b.step,za4 b.outs])))])] (f2 hh (decide_eq_true c1)) ?_ ?_
 ·exact ⟨zaj.call ((zjp ax hx k a.outs b.outs (fun y y2=>zf8 k y y2) rLAlt e2 111 [] (by simp only [zb3,zcs,idsA,idsB,Bool.and_self]) (fun y y2 w hw=>by first|exact zj0 ax hx k y y2 w hw|exact (zj0 ax hx k y y2 w hw))).call _),trivial⟩
 clear hh h;intro h hh;cases H;exact rt hh
def zfb (k:Nat) (a:Rule) (b:Rule):Option Bool:=(if a.prio=b.prio then (if a.mat=b.mat then ((zgp k a b).bind fun ralike=>some ralike) else some false) else some false)
set_option maxHeartbeats 8000000 in
theorem zn2 (ax:Axs) (hx:zbx ax) (k:Nat) (a:Rule) (b:Rule) (v:Bool) (H:zfb k a b=some v):Pure Tryz.prog (EE ax) [] 17 [zas a,zas b] (.bool v):=by
 rw [zfb] at H;refine en [.tmp 4] 22 [0,1] (hx.no _ (by decide)) (fn17 ax) ?_;intro h hh;repeat apply TW.seq
 refine rk [2,3] [] hh ?_;clear hh h;intro h hh;rcases isp H with ⟨c1,H⟩|⟨c1,H⟩;rotate_left
 ·skip;repeat apply TW.seq
  refine rk [4] [] (f2 hh (decide_eq_false c1)) ?_;clear hh h;intro h hh;cases H;exact rt hh
 rcases isp H with ⟨c2,H⟩|⟨c2,H⟩;rotate_left
 ·skip;repeat apply TW.seq
  refine rk [4] [] (f3 hh (decide_eq_true c1) (f2 (decide_eq_false c2) ((aq41 ax a.mat b.mat).1))) ?_;clear hh h;intro h hh;cases H;exact rt hh
 obtain ⟨ralike,e3,H⟩:=zad H;repeat apply TW.seq
 refine rkc [4] [] [(.bool ralike,stL [.cells true 23 (T.int .i64 a.prio :: (a.mat.mask.l.map (T.int .i64)++(a.mat.bits.l.map (T.int .i64)++[T.int .i64 a.step,za4 a.outs]))),.cells true 23 (T.int .i64 b.prio :: (b.mat.mask.l.map (T.int .i64)++(b.mat.bits.l.map (T.int .i64)++[T.int .i64 b.step,za4 b.outs])))])] (f3 hh (decide_eq_true c1) (f2 (decide_eq_true c2) ((aq41 ax a.mat b.mat).1))) ?_ ?_
 ·exact ⟨zaj.call ((zls ax hx k a b ralike e3 ).call _),trivial⟩
 clear hh h;intro h hh;cases H;exact rt hh
def zb8 (k:Nat) (a:Rule) (b:Rule) (k_:Int):Nat→Int→Option (Bool ⊕ Unit)
 |0,_=>none
 |m+1,i=>(if i<((gx a.outs k_).length:Int) then (if (0:Int)≤i∧i<((gx a.outs k_).length:Int) then (if (0:Int)≤i∧i<((gx b.outs k_).length:Int) then (if (gx (gx a.outs k_) i)=(gx (gx b.outs k_) i) then zb8 k a b k_ m (IntKind.i64.wrap (i+1)) else some (.inl false)) else none) else none) else some (.inr ()))
def zb9 (k:Nat) (a:Rule) (b:Rule):Nat→Int→Option (Bool ⊕ Unit)
 |0,_=>none
 |m+1,k_=>(if k_<(a.outs.length:Int) then (((if (0:Int)≤k_∧k_<(a.outs.length:Int) then (if (0:Int)≤k_∧k_<(b.outs.length:Int) then (if ((gx a.outs k_).length:Int)≠((gx b.outs k_).length:Int) then some (.inl false) else ((zb8 k a b k_ k 0:Option (Bool ⊕ Unit)).bind fun o=>Sum.elim (fun r=>some (.inl r)) (fun s_3=>some (.inr ())) o)) else none) else none):Option (Bool ⊕ Unit)).bind fun o2=>Sum.elim (fun r=>some (.inl r)) (fun s_2=>zb9 k a b m (IntKind.i64.wrap (k_+1))) o2) else some (.inr ()))
def zgv (k:Nat) (a:Rule) (b:Rule):Option Bool:=(if (a.outs.length:Int)≠(b.outs.length:Int) then some false else ((zb9 k a b k 0:Option (Bool ⊕ Unit)).bind fun o3=>Sum.elim (fun r=>some r) (fun s_=>some true) o3))
set_option maxHeartbeats 8000000 in
theorem zqw (ax:Axs) (hx:zbx ax) (k:Nat) (a:Rule) (b:Rule) (v:Bool) (H:zgv k a b=some v):Pure Tryz.prog (EE ax) [] 113 [zas a,zas b] (.bool v):=by
 rw [zgv] at H;refine en [.tmp 4] 61 [0,1] (hx.no _ (by decide)) (fn113 ax) ?_;intro h hh;repeat apply TW.seq
 refine rk [2,3] [] hh ?_;clear hh h;intro h hh;repeat apply TW.seq
 refine rk [2,3,13] [] hh ?_;clear hh h;intro h hh;rcases isp H with ⟨c1,H⟩|⟨c1,H⟩;rotate_left
 ·skip;repeat apply TW.seq
  refine cf (f2 hh (decide_eq_false c1)) ?_;repeat apply TW.seq
  refine sk ?_;repeat apply TW.seq
  refine rk [2,3,5] [] hh ?_;clear hh h;intro h hh;obtain ⟨o3,H1,H⟩:=zad H;repeat apply TW.seq
  refine cu [] 2 (fun h bs=>∃ s_:Unit,o3=.inr s_∧(True)∧bs=[.cells true 23 (T.int .i64 a.prio :: (a.mat.mask.l.map (T.int .i64)++(a.mat.bits.l.map (T.int .i64)++[T.int .i64 a.step,za4 a.outs]))),.cells true 23 (T.int .i64 b.prio :: (b.mat.mask.l.map (T.int .i64)++(b.mat.bits.l.map (T.int .i64)++[T.int .i64 b.step,za4 b.outs])))]) ?_ ?_
  ·skip;repeat apply TW.seq
   apply TW.block;repeat apply TW.seq
   refine TW.loopT [2,3,5] (fun m h bs=>∃ (k_:Int),zb9 k a b m k_=some o3∧(h 2=.ptr 0 0 23∧h 3=.ptr 1 0 23∧h 5=.int .i64 k_)∧bs=[.cells true 23 (T.int .i64 a.prio :: (a.mat.mask.l.map (T.int .i64)++(a.mat.bits.l.map (T.int .i64)++[T.int .i64 a.step,za4 a.outs]))),.cells true 23 (T.int .i64 b.prio :: (b.mat.mask.l.map (T.int .i64)++(b.mat.bits.l.map (T.int .i64)++[T.int .i64 b.step,za4 b.outs])))]) ?_ k _ _ ?_;rotate_left
   ·exact ⟨0,H1,kq hh,rfl⟩
   clear hh h H1;rintro m h bs ⟨k_,H1,hh,rfl⟩;rcases m with _|m
   ·rw [zb9] at H1;cases H1
   rw [zb9] at H1;repeat apply TW.seq
   refine rk [2,3,5,18] [] hh ?_;clear hh h;intro h hh;rcases isp H1 with ⟨c2,H1⟩|⟨c2,H1⟩;rotate_left
   ·skip;repeat apply TW.seq
    refine cf (f2 hh (decide_eq_false c2)) ?_;refine xk ?_;cases H1;exact ce hh ⟨_,rfl,kq hh,rfl⟩
   repeat apply TW.seq
   refine ct (f2 hh (decide_eq_true c2)) ?_;repeat apply TW.seq
   refine sk ?_;obtain ⟨o2,H2,H1⟩:=zad H1;repeat apply TW.seq
   refine cu [2,3,5] 2 (fun h bs=>∃ s_2:Unit,o2=.inr s_2∧(h 2=.ptr 0 0 23∧h 3=.ptr 1 0 23∧h 5=.int .i64 k_)∧bs=[.cells true 23 (T.int .i64 a.prio :: (a.mat.mask.l.map (T.int .i64)++(a.mat.bits.l.map (T.int .i64)++[T.int .i64 a.step,za4 a.outs]))),.cells true 23 (T.int .i64 b.prio :: (b.mat.mask.l.map (T.int .i64)++(b.mat.bits.l.map (T.int .i64)++[T.int .i64 b.step,za4 b.outs])))]) ?_ ?_
   ·skip;repeat apply TW.seq
    apply TW.block;obtain ⟨g3,H2⟩:=isg H2;obtain ⟨g4,H2⟩:=isg H2;repeat apply TW.seq
    refine dk 12 [2,3,5,33] [] [] [] (f3 hh (zal g3) (zal g4)) trivial trivial ?_;clear hh h;intro h hh;rcases isp H2 with ⟨c5,H2⟩|⟨c5,H2⟩;rotate_left
    ·skip;repeat apply TW.seq
     refine cf (f2 hh (decide_eq_false c5)) ?_;repeat apply TW.seq
     refine sk ?_;repeat apply TW.seq
     refine rk [2,3,5,6] [] hh ?_;clear hh h;intro h hh;obtain ⟨o,H3,H2⟩:=zad H2;repeat apply TW.seq
     refine cu [2,3,5] 2 (fun h bs=>∃ s_3:Unit,o=.inr s_3∧(h 2=.ptr 0 0 23∧h 3=.ptr 1 0 23∧h 5=.int .i64 k_)∧bs=[.cells true 23 (T.int .i64 a.prio :: (a.mat.mask.l.map (T.int .i64)++(a.mat.bits.l.map (T.int .i64)++[T.int .i64 a.step,za4 a.outs]))),.cells true 23 (T.int .i64 b.prio :: (b.mat.mask.l.map (T.int .i64)++(b.mat.bits.l.map (T.int .i64)++[T.int .i64 b.step,za4 b.outs])))]) ?_ ?_
     ·skip;repeat apply TW.seq
      apply TW.block;repeat apply TW.seq
      refine TW.loopT [2,3,5,6] (fun m h bs=>∃ (i:Int),zb8 k a b k_ m i=some o∧(h 2=.ptr 0 0 23∧h 3=.ptr 1 0 23∧h 5=.int .i64 k_∧h 6=.int .i64 i)∧bs=[.cells true 23 (T.int .i64 a.prio :: (a.mat.mask.l.map (T.int .i64)++(a.mat.bits.l.map (T.int .i64)++[T.int .i64 a.step,za4 a.outs]))),.cells true 23 (T.int .i64 b.prio :: (b.mat.mask.l.map (T.int .i64)++(b.mat.bits.l.map (T.int .i64)++[T.int .i64 b.step,za4 b.outs])))]) ?_ k _ _ ?_;rotate_left
      ·exact ⟨0,H3,kq hh,rfl⟩
      clear hh h H3;rintro m h bs ⟨i,H3,hh,rfl⟩;rcases m with _|m
      ·rw [zb8] at H3;cases H3
      rw [zb8] at H3;repeat apply TW.seq
      refine rk [2,3,5,6,41] [] (f2 hh (zal g3)) ?_;clear hh h;intro h hh;rcases isp H3 with ⟨c6,H3⟩|⟨c6,H3⟩;rotate_left
      ·skip;repeat apply TW.seq
       refine cf (f2 hh (decide_eq_false c6)) ?_;refine xk ?_;cases H3;exact ce hh ⟨_,rfl,kq hh,rfl⟩
      repeat apply TW.seq
      refine ct (f2 hh (decide_eq_true c6)) ?_;repeat apply TW.seq
      refine sk ?_;repeat apply TW.seq
      apply TW.block;obtain ⟨g7,H3⟩:=isg H3;obtain ⟨g8,H3⟩:=isg H3;repeat apply TW.seq
      refine dk 16 [2,3,5,6,60] [] [] [] (f3 hh (zal g3) (f3 (zal g7) (zal g4) (f2 (zal g8) ((aq94 ax (gx (gx a.outs k_) i) (gx (gx b.outs k_) i)).2)))) trivial trivial ?_;clear hh h;intro h hh;rcases isp H3 with ⟨c9,H3⟩|⟨c9,H3⟩;rotate_left
      ·skip;repeat apply TW.seq
       refine ct (f2 hh (decide_eq_false c9)) ?_;repeat apply TW.seq
       refine rk [4] [] hh ?_;clear hh h;intro h hh;cases H3;obtain rfl:=sinm H2;obtain rfl:=sinm H1;obtain rfl:=sinl H;exact rt hh
      repeat apply TW.seq
      refine cf (f2 hh (decide_eq_true c9)) ?_;repeat apply TW.seq
      refine sk ?_;repeat apply TW.seq
      refine rk [2,3,5,6] [] hh ?_;clear hh h;intro h hh;exact rd m hh ⟨(IntKind.i64.wrap (i+1)),H3,kq hh,rfl⟩
     clear hh h;rintro h bs ⟨s_3,rfl,hh,rfl⟩;replace H2:=sinr H2;cases H2;exact ce hh ⟨_,rfl,kq hh,rfl⟩
    repeat apply TW.seq
    refine ct (f2 hh (decide_eq_true c5)) ?_;repeat apply TW.seq
    refine rk [4] [] hh ?_;clear hh h;intro h hh;cases H2;obtain rfl:=sinm H1;obtain rfl:=sinl H;exact rt hh
   clear hh h;rintro h bs ⟨s_2,rfl,hh,rfl⟩;replace H1:=sinr H1;repeat apply TW.seq
   refine rk [2,3,5] [] hh ?_;clear hh h;intro h hh;exact rd m hh ⟨(IntKind.i64.wrap (k_+1)),H1,kq hh,rfl⟩
  clear hh h;rintro h bs ⟨s_,rfl,hh,rfl⟩;replace H:=sinr H;repeat apply TW.seq
  refine rk [4] [] hh ?_;clear hh h;intro h hh;cases H;exact rt hh
 repeat apply TW.seq
 refine ct (f2 hh (decide_eq_true c1)) ?_;repeat apply TW.seq
 refine rk [4] [] hh ?_;clear hh h;intro h hh;cases H;exact rt hh
def zj1 (k:Nat) (a:Rule) (b:Rule):Option Bool:=(if a.step=b.step then ((zgv k a b).bind fun rsameOuts=>some rsameOuts) else some false)
set_option maxHeartbeats 8000000 in
theorem zxl (ax:Axs) (hx:zbx ax) (k:Nat) (a:Rule) (b:Rule) (v:Bool) (H:zj1 k a b=some v):Pure Tryz.prog (EE ax) [] 55 [zas a,zas b] (.bool v):=by
 rw [zj1] at H;refine en [.tmp 4] 15 [0,1] (hx.no _ (by decide)) (fn55 ax) ?_;intro h hh;repeat apply TW.seq
 refine rk [2,3] [] hh ?_;clear hh h;intro h hh;rcases isp H with ⟨c1,H⟩|⟨c1,H⟩;rotate_left
 ·skip;repeat apply TW.seq
  refine rk [4] [] (f2 hh (decide_eq_false c1)) ?_;clear hh h;intro h hh;cases H;exact rt hh
 obtain ⟨rsameOuts,e2,H⟩:=zad H;repeat apply TW.seq
 refine rkc [4] [] [(.bool rsameOuts,stL [.cells true 23 (T.int .i64 a.prio :: (a.mat.mask.l.map (T.int .i64)++(a.mat.bits.l.map (T.int .i64)++[T.int .i64 a.step,za4 a.outs]))),.cells true 23 (T.int .i64 b.prio :: (b.mat.mask.l.map (T.int .i64)++(b.mat.bits.l.map (T.int .i64)++[T.int .i64 b.step,za4 b.outs])))])] (f2 hh (decide_eq_true c1)) ?_ ?_
 ·exact ⟨zaj.call ((zqw ax hx k a b rsameOuts e2 ).call _),trivial⟩
 clear hh h;intro h hh;cases H;exact rt hh
end
section
open Go Go.RowKit
theorem gxA {n:Nat} (a:Ar n) {i:Nat} (h:i<n):gx a.l (i:Int)=a.l[i]'(by rw [a.h];exact h):=zea (by rw [a.h];exact h)
theorem yms {n:Nat} (a:Ar n) (q:Int→Bool):((List.range n).all fun j=>q (gx a.l (j:Int)))=a.l.all q:=by
  rw [Bool.eq_iff_iff,List.all_eq_true,zt7];constructor
  · intro h j hj;have:=h j (List.mem_range.2 (by rw [a.h] at hj;exact hj))
    rwa [zea hj] at this
  · intro h j hj;have hj':j<a.l.length:=by rw [a.h];exact List.mem_range.1 hj
    rw [zea hj'];exact h j hj'
theorem z6e {α:Type} [DecidableEq α] (a b:List α) (h:a.length=b.length):((List.range a.length).all fun j=>decide (a[j]?=b[j]?))=decide (a=b):=by
  rw [Bool.eq_iff_iff,List.all_eq_true,decide_eq_true_eq];constructor
  · intro hh;apply List.ext_getElem?;intro i;by_cases hi:i<a.length
    · have:=hh i (List.mem_range.2 hi);simpa using this
    · rw [List.getElem?_eq_none (by omega),List.getElem?_eq_none (by omega)]
  · rintro rfl j _;simp
theorem lt10 {a:Nat} (h:a<10):(a:Int)<10:=by omega
theorem zam {a b:Nat} (h:a<b):(a:Int)<(b:Int):=by omega
theorem zny {k:Nat} (a b:List (List Alt)) (f:(List Alt)→(List Alt)→Option Bool) (hf:∀ x,x∈a→∀ y,y∈b→f x y=some (decide (x=y))) (hl:a.length<big) (hk:a.length<k):zcg k a b f=some (decide (a=b)):=by
  unfold zcg;by_cases hlen:a.length=b.length
  · rw [if_neg (by omega),zh2 (L:=zap k a b f) a.length false (fun j=>decide (a[j]?=b[j]?)) hl (fun m j h=>by
      have h2:j<b.length:=by omega
      rw [zap,if_pos (zam h),if_pos ⟨by omega,zam h⟩,if_pos ⟨by omega,zam h2⟩,zea h,zea h2];rw [hf _ (List.getElem_mem h) _ (List.getElem_mem h2),Option.bind_some,List.getElem?_eq_getElem h,List.getElem?_eq_getElem h2]
      simp only [Option.some.injEq]) (fun m=>by rw [zap,if_neg (by omega)]) hk,z6e a b hlen,Option.bind_some]
    cases decide (a=b)<;>rfl
  · rw [if_pos (by omega)];congr 1;exact (decide_eq_false fun h=>hlen (by rw [h])).symm
theorem zur {k:Nat} (a b:List Alt) (hl:a.length<big) (hk:a.length<k):zd7 k a b=some (decide (a=b)):=by
  unfold zd7;by_cases hlen:a.length=b.length
  · rw [if_neg (by omega),zh2 (L:=zbc k a b) a.length false (fun j=>decide (a[j]?=b[j]?)) hl (fun m j h=>by
      have h2:j<b.length:=by omega
      rw [zbc,if_pos (zam h),if_pos ⟨by omega,zam h⟩,if_pos ⟨by omega,zam h2⟩,zea h,zea h2,List.getElem?_eq_getElem h,List.getElem?_eq_getElem h2]
      simp only [Option.some.injEq,decide_eq_true_eq]) (fun m=>by rw [zbc,if_neg (by omega)]) hk,z6e a b hlen,Option.bind_some]
    cases decide (a=b)<;>rfl
  · rw [if_pos (by omega)];congr 1;exact (decide_eq_false fun h=>hlen (by rw [h])).symm
/-! patterns -/
def zvl (x:Int):Bool:=decide (0≤x∧x≤65535)
def zab (h:Ar 10):Bool:=h.l.all zvl
def zw8 (p:Pat):Bool:=(List.range 10).all fun i=>decide (iAnd .i64 (gx p.bits.l (i:Int)) (gx p.mask.l (i:Int))=gx p.bits.l (i:Int))
def zag (p:Pat):Bool:=zab p.mask && (zab p.bits && zw8 p)
theorem z7n {x:Int} (h:zvl x=true):∃ n:Nat,x=(n:Int)∧n<65536:=by
  have:=of_decide_eq_true h;exact ⟨x.toNat,by omega,by omega⟩
theorem zxw {h:Ar 10} (hr:zab h=true) {i:Nat} (hi:i<10):∃ n:Nat,gx h.l (i:Int)=(n:Int)∧n<65536:=by
  rw [gxA h hi];exact z7n (List.all_eq_true.1 hr _ (List.getElem_mem _))
theorem zky {k:Nat} (h:Ar 10) (hk:10<k):zdw k h=some (zab h):=by
  unfold zdw
  rw [zh2 (L:=zbv k h) 10 false (fun i=>zvl (gx h.l (i:Int))) (by decide) (fun m j hj=>by
    rw [zbv,if_pos (lt10 hj),if_pos ⟨by omega,lt10 hj⟩];unfold zvl;by_cases c1:gx h.l (j:Int)<0
    · rw [if_pos c1,if_neg (by rw [decide_eq_true_eq];omega)]
    · rw [if_neg c1];by_cases c2:65535<gx h.l (j:Int)
      · rw [if_pos c2,if_neg (by rw [decide_eq_true_eq];omega)]
      · rw [if_neg c2,if_pos (by rw [decide_eq_true_eq];omega)]) (fun m=>by rw [zbv];exact if_neg (by decide)) hk,Option.bind_some,yms]
  unfold zab;cases h.l.all zvl<;>rfl
theorem z7q {k:Nat} (p:Pat) (hk:10<k):ziz k p.bits p.mask=some (zw8 p):=by
  unfold ziz zw8
  rw [zh2 (L:=zda k p.bits p.mask) 10 false (fun i=>decide (iAnd .i64 (gx p.bits.l (i:Int)) (gx p.mask.l (i:Int))=gx p.bits.l (i:Int))) (by decide) (fun m j hj=>by
    rw [zda,if_pos (lt10 hj),if_pos ⟨by omega,lt10 hj⟩];by_cases c:iAnd .i64 (gx p.bits.l (j:Int)) (gx p.mask.l (j:Int))=gx p.bits.l (j:Int)
    · rw [if_neg (fun h=>h c),if_pos (decide_eq_true c)]
    · rw [if_pos c,if_neg (by rw [decide_eq_true_eq];exact c)]) (fun m=>by rw [zda];exact if_neg (by decide)) hk,Option.bind_some]
  cases (List.range 10).all _<;>rfl
theorem zsu {k:Nat} (p:Pat) (hk:10<k):zhn k p=some (zag p):=by
  unfold zhn zag
  rw [zky _ hk,zky _ hk,Option.bind_some,Option.bind_some,z7q p hk];cases zab p.mask<;>cases zab p.bits<;>rfl
theorem zz1 {k:Nat} (p:Pat) (hk:10<k):zgy k p=some (zag p):=by
  unfold zgy;rw [zsu _ hk];rfl
/-! rules and tables -/
def zkf (r:Rule):Prop:=r.outs.length<big∧∀ l,l∈r.outs→l.length<big
def zq1 (t:List Rule):Prop:=t.length<big∧∀ r,r∈t→zkf r
theorem zr4 {k:Nat} (a b:Rule) (ha:zkf a) (hk:big≤k):zgp k a b=some (decide (a.step=b.step∧a.outs=b.outs)):=by
  unfold zgp;rw [zny a.outs b.outs _ (fun x hx y hy=>by unfold zf8;rw [zur x y (ha.2 x hx) (Nat.lt_of_lt_of_le (ha.2 x hx) hk)];rfl) ha.1 (Nat.lt_of_lt_of_le ha.1 hk)];by_cases c:a.step=b.step
  · rw [if_pos c];simp [c]
  · rw [if_neg c];simp [c]
theorem zue {k:Nat} (a b:Rule) (ha:zkf a) (hk:big≤k):zfb k a b=some (decide (a=b)):=by
  unfold zfb;rw [zr4 a b ha hk];obtain ⟨p,m,s,o⟩:=a;obtain ⟨p2,m2,s2,o2⟩:=b;simp only [Rule.mk.injEq];by_cases c1:p=p2
  · rw [if_pos c1];by_cases c2:m=m2
    · rw [if_pos c2];simp [c1,c2]
    · rw [if_neg c2];simp [c2]
  · rw [if_neg c1];simp [c1]
theorem zzz {k:Nat} (a b:Rule) (ha:zkf a) (hk:big≤k):zgv k a b=some (decide (a.outs=b.outs)):=by
  unfold zgv;by_cases hlen:a.outs.length=b.outs.length
  · rw [if_neg (by omega),zh2 (L:=zb9 k a b) a.outs.length false (fun j=>decide (a.outs[j]?=b.outs[j]?)) ha.1 (fun m j h=>by
      have h2:j<b.outs.length:=by omega
      rw [zb9,if_pos (zam h),if_pos ⟨by omega,zam h⟩,if_pos ⟨by omega,zam h2⟩,zea h,zea h2];have hx:=ha.2 _ (List.getElem_mem h);rw [List.getElem?_eq_getElem h,List.getElem?_eq_getElem h2];by_cases hl2:a.outs[j].length=b.outs[j].length
      · rw [if_neg (by omega),zh2 (L:=zb8 k a b (j:Int)) a.outs[j].length false (fun i=>decide (a.outs[j][i]?=b.outs[j][i]?)) hx (fun m i hi=>by
          have hi2:i<b.outs[j].length:=by omega
          rw [zb8,zea h,zea h2,if_pos (zam hi),if_pos ⟨by omega,zam hi⟩,if_pos ⟨by omega,zam hi2⟩,zea hi,zea hi2,List.getElem?_eq_getElem hi,List.getElem?_eq_getElem hi2]
          simp only [Option.some.injEq,decide_eq_true_eq]) (fun m=>by rw [zb8,zea h,if_neg (by omega)]) (Nat.lt_of_lt_of_le hx hk),z6e _ _ hl2,Option.bind_some]
        by_cases c:a.outs[j]=b.outs[j]
        · rw [decide_eq_true c,decide_eq_true (congrArg some c)];rfl
        · rw [decide_eq_false c,decide_eq_false (fun h=>c (Option.some.inj h))];rfl
      · rw [if_pos (by omega),decide_eq_false (fun h=>hl2 (by rw [Option.some.inj h]))];rfl) (fun m=>by rw [zb9,if_neg (by omega)]) (Nat.lt_of_lt_of_le ha.1 hk),z6e _ _ hlen,Option.bind_some]
    cases decide (a.outs=b.outs)<;>rfl
  · rw [if_pos (by omega)];congr 1;exact (decide_eq_false fun h=>hlen (by rw [h])).symm
theorem yah {k:Nat} (a b:Rule) (ha:zkf a) (hk:big≤k):zj1 k a b=some (decide (a.step=b.step∧a.outs=b.outs)):=by
  unfold zj1;rw [zzz a b ha hk];by_cases c:a.step=b.step
  · rw [if_pos c];simp [c]
  · rw [if_neg c];simp [c]
def fAlt (n:Net) (a:Alt):Bool:=decide (-1≤a.link∧a.link<n.links.length) && zag a.mod
def fOut (n:Net) (l:List Alt):Bool:=decide (1≤l.length∧l.length≤8) && l.all (fAlt n)
def zwk (n:Net) (steps:Int) (r:Rule):Bool:=decide (1≤r.prio∧r.prio≤65535) && (zag r.mat && (decide (-1≤r.step∧r.step<steps∧r.outs.length≤16) && r.outs.all (fOut n)))
theorem z7p {k:Nat} (n:Net) (steps:Int) (r:Rule) (hr:zkf r) (hk:big≤k):ziy k n steps r=some (zwk n steps r):=by
  have hk10:10<k:=Nat.lt_of_lt_of_le (by decide) hk;unfold ziy zwk;rw [zsu _ hk10,Option.bind_some]
  have hloop:zc9 k n r k 0=some (if r.outs.all (fOut n)=true then .inr () else .inl false):=by
    refine zon r.outs false (fOut n) hr.1 (fun m j h=>?_) (fun m=>by rw [zc9,if_neg (by omega)]) (Nat.lt_of_lt_of_le hr.1 hk);have hx:=hr.2 _ (List.getElem_mem h);rw [zc9,if_pos (zam h),if_pos ⟨by omega,zam h⟩,zea h];unfold fOut;by_cases c1:(r.outs[j].length:Int)<1
    · rw [if_pos c1,decide_eq_false (by omega)];rfl
    · rw [if_neg c1,Option.bind_some];by_cases c2:8<(r.outs[j].length:Int)
      · rw [decide_eq_true c2,decide_eq_false (by omega)];rfl
      · rw [decide_eq_false c2,decide_eq_true (by omega)];simp only [Bool.false_eq_true,if_false,Bool.true_and]
        rw [zon (L:=zc8 k n r (j:Int)) r.outs[j] false (fAlt n) hx (fun m i hi=>by
          rw [zc8,if_pos ⟨by omega,zam h⟩,zea h,if_pos (zam hi),if_pos ⟨by omega,zam hi⟩,zea hi,zz1 _ hk10,Option.bind_some];unfold fAlt;by_cases d1:r.outs[j][i].link < -1
          · rw [if_pos d1,decide_eq_false (by omega)];rfl
          · rw [if_neg d1];by_cases d2:(n.links.length:Int)≤r.outs[j][i].link
            · rw [if_pos d2,decide_eq_false (by omega)];rfl
            · rw [if_neg d2,decide_eq_true (by omega)];rfl) (fun m=>by rw [zc8,if_pos ⟨by omega,zam h⟩,zea h,if_neg (by omega)]) (Nat.lt_of_lt_of_le hx hk),Option.bind_some]
        cases r.outs[j].all (fAlt n)<;>rfl
  rw [hloop];by_cases c1:r.prio<1
  · rw [if_pos c1,decide_eq_false (by omega)];rfl
  · rw [if_neg c1];by_cases c2:65535<r.prio
    · rw [if_pos c2,decide_eq_false (by omega)];rfl
    · rw [if_neg c2,decide_eq_true (show 1≤r.prio∧r.prio≤65535 by omega)]
      cases zag r.mat with
      |false=>rfl
      |true =>
        simp only [if_true,Bool.true_and];by_cases c3:r.step < -1
        · rw [if_pos c3,decide_eq_false (by omega)];rfl
        · rw [if_neg c3];by_cases c4:steps≤r.step
          · rw [if_pos c4,decide_eq_false (by omega)];rfl
          · rw [if_neg c4,Option.bind_some];by_cases c5:16<(r.outs.length:Int)
            · rw [decide_eq_true c5,decide_eq_false (by omega)];rfl
            · rw [decide_eq_false c5,decide_eq_true (by omega)];simp only [Bool.false_eq_true,if_false,Bool.true_and];cases r.outs.all (fOut n)<;>rfl
end
section
open Go Go.RowKit
set_option maxRecDepth 100000
def zn5 (k:Nat) (n:Net) (nodes:Int) (links:Int) (edges:Int):Option Bool:=(if (n.nodes.length:Int)≤nodes then (if (n.links.length:Int)≤links then some (decide ((n.edges.length:Int)≤edges)) else some false) else some false)
set_option maxHeartbeats 8000000 in
theorem zr8 (ax:Axs) (hx:zbx ax) (k:Nat) (n:Net) (nodes:Int) (links:Int) (edges:Int) (v:Bool) (H:zn5 k n nodes links edges=some v):Pure Tryz.prog (EE ax) [] 9 [eNet n,.int .i64 nodes,.int .i64 links,.int .i64 edges] (.bool v):=by
 rw [zn5] at H;refine en [.tmp 8] 28 [0,1,2,3] (hx.no _ (by decide)) (fn9 ax) ?_;intro h hh;repeat apply TW.seq
 refine rk [1,2,3,4] [] hh ?_;clear hh h;intro h hh;rcases isp H with ⟨c1,H⟩|⟨c1,H⟩;rotate_left
 ·skip;repeat apply TW.seq
  refine rk [8] [] (f2 hh (decide_eq_false c1)) ?_;clear hh h;intro h hh;cases H;exact rt hh
 rcases isp H with ⟨c2,H⟩|⟨c2,H⟩;rotate_left
 ·skip;repeat apply TW.seq
  refine rk [8] [] (f3 hh (decide_eq_true c1) (decide_eq_false c2)) ?_;clear hh h;intro h hh;cases H;exact rt hh
 repeat apply TW.seq
 refine rk [8] [] (f3 hh (decide_eq_true c1) (decide_eq_true c2)) ?_;clear hh h;intro h hh;cases H;exact rt hh
def zem (k:Nat) (n:Net):Nat→Int→(List ByteArray)→Nat→Option (List ByteArray×Nat)
 |0,_,_,_=>none
 |m+1,i,l,n2=>(if i<(n.nodes.length:Int) then (if (0:Int)≤i∧i<(n.nodes.length:Int) then (if (n2+1)*17≤1000000000 then zem k n m (IntKind.i64.wrap (i+1)) (l++[(gx n.nodes i).name]) (n2+1) else none) else none) else some (l,n2))
def zel (k:Nat) (n:Net):Nat→Int→(List ByteArray)→Nat→Option (List ByteArray×Nat)
 |0,_,_,_=>none
 |m+1,i2,l2,n3=>(if i2<(n.edges.length:Int) then (if (0:Int)≤i2∧i2<(n.edges.length:Int) then (if (n3+1)*17≤1000000000 then zel k n m (IntKind.i64.wrap (i2+1)) (l2++[(gx n.edges i2).name]) (n3+1) else none) else none) else some (l2,n3))
def zj5 (k:Nat) (n:Net):Option (List ByteArray×List ByteArray):=((zem k n k 0 [] 0:Option (List ByteArray×Nat)).bind fun s_=>((zel k n k 0 [] 0:Option (List ByteArray×Nat)).bind fun s_2=>(if s_.1.length=s_.2 then (if s_2.1.length=s_2.2 then some (s_.1,s_2.1) else none) else none)))
set_option maxHeartbeats 8000000 in
theorem zxp (ax:Axs) (hx:zbx ax) (k:Nat) (n:Net) (v:List ByteArray×List ByteArray) (H:zj5 k n=some v):Pure Tryz.prog (EE ax) [] 45 [eNet n] (tupT [strs v.1,strs v.2]):=by
 rw [zj5] at H;refine enN [.tmp 2,.tmp 3] 42 [0] (hx.no _ (by decide)) (fn45 ax) ?_;intro h hh;repeat apply TW.seq
 refine rk [1] [] hh ?_;clear hh h;intro h hh;repeat apply TW.seq
 refine rk [1,4] [] hh ?_;clear hh h;intro h hh;refine vk 4 1 [1,4] hh ?_;clear hh h;intro h hh;repeat apply TW.seq
 refine rk [1,4,5] [] hh ?_;clear hh h;intro h hh;refine vk 5 1 [1,4,5] hh ?_;clear hh h;intro h hh;repeat apply TW.seq
 refine rk [1,4,5,6] [] hh ?_;clear hh h;intro h hh;obtain ⟨s_,H1,H⟩:=zad H;repeat apply TW.seq
 refine cu [1,4,5] 3 (fun h bs=>(h 1=.ptr 0 0 3∧h 4=.arr 1 1 0 s_.2 s_.2 s_.2∧h 5=.arr 2 1 0 0 0 0)∧bs=[.cells true 3 [za6 n.nodes,za7 n.links,za8 n.edges],.cells false s_.2 (s_.1.map T.str),.cells false 0 ([].map T.str)]) ?_ ?_
 ·skip;repeat apply TW.seq
  apply TW.block;repeat apply TW.seq
  refine TW.loopT [1,4,5,6] (fun m h bs=>∃ (i:Int) (l:List ByteArray) (n2:Nat),zem k n m i l n2=some s_∧(h 1=.ptr 0 0 3∧h 4=.arr 1 1 0 n2 n2 n2∧h 5=.arr 2 1 0 0 0 0∧h 6=.int .i64 i)∧bs=[.cells true 3 [za6 n.nodes,za7 n.links,za8 n.edges],.cells false n2 (l.map T.str),.cells false 0 ([].map T.str)]) ?_ k _ _ ?_;rotate_left
  ·exact ⟨0,[],0,H1,kq hh,rfl⟩
  clear hh h H1;rintro m h bs ⟨i,l,n2,H1,hh,rfl⟩;rcases m with _|m
  ·rw [zem] at H1;cases H1
  rw [zem] at H1;repeat apply TW.seq
  refine rk [1,4,5,6,12] [] hh ?_;clear hh h;intro h hh;rcases isp H1 with ⟨c1,H1⟩|⟨c1,H1⟩;rotate_left
  ·skip;repeat apply TW.seq
   refine cf (f2 hh (decide_eq_false c1)) ?_;refine xk ?_;cases H1;exact ce hh ⟨kq hh,rfl⟩
  repeat apply TW.seq
  refine ct (f2 hh (decide_eq_true c1)) ?_;repeat apply TW.seq
  refine sk ?_;repeat apply TW.seq
  apply TW.block;obtain ⟨g2,H1⟩:=isg H1;obtain ⟨g3,H1⟩:=isg H1;repeat apply TW.seq
  refine rg [] [] [.cells true 3 [za6 n.nodes,za7 n.links,za8 n.edges],.cells false (n2+1) ((l++[(gx n.nodes i).name]).map T.str),.cells false 0 ([].map T.str)] (fun h=>h 1=.ptr 0 0 3∧h 4=.arr 1 1 0 (n2+1) (n2+1) (n2+1)∧h 5=.arr 2 1 0 0 0 0∧h 6=.int .i64 i) (f2 hh (zal g2)) trivial ?_;clear hh h;intro h hh;repeat apply TW.seq
  refine rk [1,4,5,6] [] hh ?_;clear hh h;intro h hh;exact rd m hh ⟨(IntKind.i64.wrap (i+1)),(l++[(gx n.nodes i).name]),(n2+1),H1,kq hh,rfl⟩
 clear hh h;rintro h bs ⟨hh,rfl⟩;repeat apply TW.seq
 refine rk [1,4,5,7] [] hh ?_;clear hh h;intro h hh;obtain ⟨s_2,H1,H⟩:=zad H;repeat apply TW.seq
 refine cu [4,5] 3 (fun h bs=>(h 4=.arr 1 1 0 s_.2 s_.2 s_.2∧h 5=.arr 2 1 0 s_2.2 s_2.2 s_2.2)∧bs=[.cells true 3 [za6 n.nodes,za7 n.links,za8 n.edges],.cells false s_.2 (s_.1.map T.str),.cells false s_2.2 (s_2.1.map T.str)]) ?_ ?_
 ·skip;repeat apply TW.seq
  apply TW.block;repeat apply TW.seq
  refine TW.loopT [1,4,5,7] (fun m h bs=>∃ (i2:Int) (l2:List ByteArray) (n3:Nat),zel k n m i2 l2 n3=some s_2∧(h 1=.ptr 0 0 3∧h 4=.arr 1 1 0 s_.2 s_.2 s_.2∧h 5=.arr 2 1 0 n3 n3 n3∧h 7=.int .i64 i2)∧bs=[.cells true 3 [za6 n.nodes,za7 n.links,za8 n.edges],.cells false s_.2 (s_.1.map T.str),.cells false n3 (l2.map T.str)]) ?_ k _ _ ?_;rotate_left
  ·exact ⟨0,[],0,H1,kq hh,rfl⟩
  clear hh h H1;rintro m h bs ⟨i2,l2,n3,H1,hh,rfl⟩;rcases m with _|m
  ·rw [zel] at H1;cases H1
  rw [zel] at H1;repeat apply TW.seq
  refine rk [1,4,5,7,28] [] hh ?_;clear hh h;intro h hh;rcases isp H1 with ⟨c4,H1⟩|⟨c4,H1⟩;rotate_left
  ·skip;repeat apply TW.seq
   refine cf (f2 hh (decide_eq_false c4)) ?_;refine xk ?_;cases H1;exact ce hh ⟨kq hh,rfl⟩
  repeat apply TW.seq
  refine ct (f2 hh (decide_eq_true c4)) ?_;repeat apply TW.seq
  refine sk ?_;repeat apply TW.seq
  apply TW.block;obtain ⟨g5,H1⟩:=isg H1;obtain ⟨g6,H1⟩:=isg H1;repeat apply TW.seq
  refine rg [] [] [.cells true 3 [za6 n.nodes,za7 n.links,za8 n.edges],.cells false s_.2 (s_.1.map T.str),.cells false (n3+1) ((l2++[(gx n.edges i2).name]).map T.str)] (fun h=>h 1=.ptr 0 0 3∧h 4=.arr 1 1 0 s_.2 s_.2 s_.2∧h 5=.arr 2 1 0 (n3+1) (n3+1) (n3+1)∧h 7=.int .i64 i2) (f2 hh (zal g5)) trivial ?_;clear hh h;intro h hh;repeat apply TW.seq
  refine rk [1,4,5,7] [] hh ?_;clear hh h;intro h hh;exact rd m hh ⟨(IntKind.i64.wrap (i2+1)),(l2++[(gx n.edges i2).name]),(n3+1),H1,kq hh,rfl⟩
 clear hh h;rintro h bs ⟨hh,rfl⟩;repeat apply TW.seq
 refine rk [2,3] [] hh ?_;clear hh h;intro h hh;obtain ⟨g7,H⟩:=isg H;obtain ⟨g8,H⟩:=isg H;refine TW.freeze 2 (b:=1) (e:=1) (off:=0) (len:=s_.2) (cap:=s_.2) (M:=s_.2) (s_.1.map T.str) (kq hh) (by rfl) (by omega) (by omega) (by rw [List.drop_zero,Nat.mul_one,zkj (fun _=>rfl),List.take_of_length_le (by rw [List.length_map];omega)]) (fun t ht=>by obtain ⟨x,_,rfl⟩:=List.mem_map.1 ht;first|rfl|exact zi8 _|exact zbb _|exact zg7 _|exact zba _ | (rw [List.length_map];rfl)) (by rw [List.length_map];exact g7) (by omega) ?_;rw [zhy _ _ _ (by simp only [lzA]<;>omega)];simp only [scA];refine gk [2,3] hh ?_;clear hh h;intro h hh;refine TW.freeze 3 (b:=2) (e:=1) (off:=0) (len:=s_2.2) (cap:=s_2.2) (M:=s_2.2) (s_2.1.map T.str) (kq hh) (by rfl) (by omega) (by omega) (by rw [List.drop_zero,Nat.mul_one,zkj (fun _=>rfl),List.take_of_length_le (by rw [List.length_map];omega)]) (fun t ht=>by obtain ⟨x,_,rfl⟩:=List.mem_map.1 ht;first|rfl|exact zi8 _|exact zbb _|exact zg7 _|exact zba _ | (rw [List.length_map];rfl)) (by rw [List.length_map];exact g8) (by omega) ?_;rw [zhy _ _ _ (by simp only [lzA]<;>omega)];simp only [scA];refine gk [2,3] hh ?_;clear hh h;intro h hh;cases H;exact rt hh
def zee (k:Nat) (s_:ByteArray):Nat→Int→Option (Bool ⊕ Unit)
 |0,_=>none
 |m+1,i=>(if i<(s_.size:Int) then (((if (0:Int)≤i∧i<(s_.size:Int) then (if 97≤((bx s_ i).toNat:Int) then some (decide (((bx s_ i).toNat:Int)≤122)) else some false) else none):Option Bool).bind fun s_3=>(((if (0:Int)≤i∧i<(s_.size:Int) then (if 48≤((bx s_ i).toNat:Int) then (if ((bx s_ i).toNat:Int)≤57 then some true else some (decide (((bx s_ i).toNat:Int)=95))) else some (decide (((bx s_ i).toNat:Int)=95))) else none):Option Bool).bind fun s_4=>(if s_3=true then zee k s_ m (IntKind.i64.wrap (i+1)) else (if s_4=true then (if i=0 then some (.inl false) else zee k s_ m (IntKind.i64.wrap (i+1))) else some (.inl false))))) else some (.inr ()))
def zlt (k:Nat) (s_:ByteArray):Option Bool:=((zee k s_ k 0:Option (Bool ⊕ Unit)).bind fun o=>Sum.elim (fun r=>some r) (fun s_2=>(if 1≤(s_.size:Int) then some (decide ((s_.size:Int)≤24)) else some false)) o)
set_option maxHeartbeats 8000000 in
theorem zzi (ax:Axs) (hx:zbx ax) (k:Nat) (s_:ByteArray) (v:Bool) (H:zlt k s_=some v):Pure Tryz.prog (EE ax) [] 101 [.str s_] (.bool v):=by
 rw [zlt] at H;refine en [.tmp 2] 56 [0] (hx.no _ (by decide)) (fn101 ax) ?_;intro h hh;repeat apply TW.seq
 refine rk [0] [] hh ?_;clear hh h;intro h hh;repeat apply TW.seq
 refine rk [0,3] [] hh ?_;clear hh h;intro h hh;obtain ⟨o,H1,H⟩:=zad H;repeat apply TW.seq
 refine cu [0] 0 (fun h bs=>∃ s_2:Unit,o=.inr s_2∧(h 0=.str s_)∧bs=[]) ?_ ?_
 ·skip;repeat apply TW.seq
  apply TW.block;repeat apply TW.seq
  refine TW.loopT [0,3] (fun m h bs=>∃ (i:Int),zee k s_ m i=some o∧(h 0=.str s_∧h 3=.int .i64 i)∧bs=[]) ?_ k _ _ ?_;rotate_left
  ·exact ⟨0,H1,kq hh,rfl⟩
  clear hh h H1;rintro m h bs ⟨i,H1,hh,rfl⟩;rcases m with _|m
  ·rw [zee] at H1;cases H1
  rw [zee] at H1;repeat apply TW.seq
  refine rk [0,3,9] [] hh ?_;clear hh h;intro h hh;rcases isp H1 with ⟨c1,H1⟩|⟨c1,H1⟩;rotate_left
  ·skip;repeat apply TW.seq
   refine cf (f2 hh (decide_eq_false c1)) ?_;refine xk ?_;cases H1;exact ce hh ⟨_,rfl,kq hh,rfl⟩
  repeat apply TW.seq
  refine ct (f2 hh (decide_eq_true c1)) ?_;repeat apply TW.seq
  refine sk ?_;repeat apply TW.seq
  apply TW.block;obtain ⟨s_3,H2,H1⟩:=zad H1;repeat apply TW.seq
  refine cu [0,3,4] 0 (fun h bs=>(h 0=.str s_∧h 3=.int .i64 i∧h 4=.bool s_3)∧bs=[]) ?_ ?_
  ·skip;obtain ⟨g2,H2⟩:=isg H2;rcases isp H2 with ⟨c3,H2⟩|⟨c3,H2⟩;rotate_left
   ·skip;repeat apply TW.seq
    refine rk [0,3,4] [] (f3 hh (decide_eq_false c3) (zt2 g2)) ?_;clear hh h;intro h hh;cases H2;exact ce hh ⟨kq hh,rfl⟩
   repeat apply TW.seq
   refine rk [0,3,4] [] (f3 hh (decide_eq_true c3) (zt2 g2)) ?_;clear hh h;intro h hh;cases H2;exact ce hh ⟨kq hh,rfl⟩
  clear hh h;rintro h bs ⟨hh,rfl⟩;obtain ⟨s_4,H2,H1⟩:=zad H1;repeat apply TW.seq
  refine cu [0,3,4,5] 0 (fun h bs=>(h 0=.str s_∧h 3=.int .i64 i∧h 4=.bool s_3∧h 5=.bool s_4)∧bs=[]) ?_ ?_
  ·skip;obtain ⟨g4,H2⟩:=isg H2;rcases isp H2 with ⟨c5,H2⟩|⟨c5,H2⟩;rotate_left
   ·skip;repeat apply TW.seq
    refine rk [0,3,4,5] [] (f3 hh (decide_eq_false c5) (zt2 g4)) ?_;clear hh h;intro h hh;cases H2;exact ce hh ⟨kq hh,rfl⟩
   rcases isp H2 with ⟨c6,H2⟩|⟨c6,H2⟩;rotate_left
   ·skip;repeat apply TW.seq
    refine rk [0,3,4,5] [] (f3 hh (decide_eq_true c5) (f2 (decide_eq_false c6) (zt2 g4))) ?_;clear hh h;intro h hh;cases H2;exact ce hh ⟨kq hh,rfl⟩
   repeat apply TW.seq
   refine rk [0,3,4,5] [] (f3 hh (decide_eq_true c5) (f2 (decide_eq_true c6) (zt2 g4))) ?_;clear hh h;intro h hh;cases H2;exact ce hh ⟨kq hh,rfl⟩
  clear hh h;rintro h bs ⟨hh,rfl⟩;rcases isb H1 with ⟨c7,H1⟩|⟨c7,H1⟩;rotate_left
  ·skip;rcases isb H1 with ⟨c8,H1⟩|⟨c8,H1⟩;rotate_left
   ·skip;repeat apply TW.seq
    refine rk [0,3,47] [] (f3 hh c7 c8) ?_;clear hh h;intro h hh;repeat apply TW.seq
    refine ct hh ?_;repeat apply TW.seq
    refine rk [2] [] (f3 hh c7 c8) ?_;clear hh h;intro h hh;cases H1;obtain rfl:=sinl H;exact rt hh
   repeat apply TW.seq
   refine rk [0,3,47] [] (f3 hh c7 c8) ?_;clear hh h;intro h hh;rcases isp H1 with ⟨c9,H1⟩|⟨c9,H1⟩;rotate_left
   ·skip;repeat apply TW.seq
    refine cf (f2 hh (decide_eq_false c9)) ?_;repeat apply TW.seq
    refine sk ?_;repeat apply TW.seq
    refine rk [0,3] [] (f3 hh c7 c8) ?_;clear hh h;intro h hh;exact rd m hh ⟨(IntKind.i64.wrap (i+1)),H1,kq hh,rfl⟩
   repeat apply TW.seq
   refine ct (f2 hh (decide_eq_true c9)) ?_;repeat apply TW.seq
   refine rk [2] [] (f3 hh c7 c8) ?_;clear hh h;intro h hh;cases H1;obtain rfl:=sinl H;exact rt hh
  repeat apply TW.seq
  refine rk [0,3,47] [] (f2 hh c7) ?_;clear hh h;intro h hh;repeat apply TW.seq
  refine cf hh ?_;repeat apply TW.seq
  refine sk ?_;repeat apply TW.seq
  refine rk [0,3] [] (f2 hh c7) ?_;clear hh h;intro h hh;exact rd m hh ⟨(IntKind.i64.wrap (i+1)),H1,kq hh,rfl⟩
 clear hh h;rintro h bs ⟨s_2,rfl,hh,rfl⟩;replace H:=sinr H;rcases isp H with ⟨c10,H⟩|⟨c10,H⟩;rotate_left
 ·skip;repeat apply TW.seq
  refine rk [2] [] (f2 hh (decide_eq_false c10)) ?_;clear hh h;intro h hh;cases H;exact rt hh
 repeat apply TW.seq
 refine rk [2] [] (f2 hh (decide_eq_true c10)) ?_;clear hh h;intro h hh;cases H;exact rt hh
def zej (k:Nat) (l:List ByteArray) (i:Int):Nat→Int→Option (Bool ⊕ Unit)
 |0,_=>none
 |m+1,k_=>(if k_<i then (if (0:Int)≤k_∧k_<(l.length:Int) then (if (gx l k_)=(gx l i) then some (.inl false) else zej k l i m (IntKind.i64.wrap (k_+1))) else none) else some (.inr ()))
def zek (k:Nat) (l:List ByteArray):Nat→Int→Option (Bool ⊕ Unit)
 |0,_=>none
 |m+1,i=>(if i<(l.length:Int) then (((if (0:Int)≤i∧i<(l.length:Int) then ((zlt k (gx l i)).bind fun rName=>(if rName=true then ((zej k l i k 0:Option (Bool ⊕ Unit)).bind fun o=>Sum.elim (fun r=>some (.inl r)) (fun s_3=>some (.inr ())) o) else some (.inl false))) else none):Option (Bool ⊕ Unit)).bind fun o2=>Sum.elim (fun r=>some (.inl r)) (fun s_2=>zek k l m (IntKind.i64.wrap (i+1))) o2) else some (.inr ()))
def zin (k:Nat) (l:List ByteArray):Option Bool:=((zek k l k 0:Option (Bool ⊕ Unit)).bind fun o3=>Sum.elim (fun r=>some r) (fun s_=>some true) o3)
set_option maxHeartbeats 8000000 in
theorem zn4 (ax:Axs) (hx:zbx ax) (k:Nat) (l:List ByteArray) (v:Bool) (H:zin k l=some v):Pure Tryz.prog (EE ax) [] 46 [strs l] (.bool v):=by
 rw [zin] at H;refine en [.tmp 2] 33 [0] (hx.no _ (by decide)) (fn46 ax) ?_;intro h hh;repeat apply TW.seq
 refine rk [0] [] hh ?_;clear hh h;intro h hh;repeat apply TW.seq
 refine rk [0,3] [] hh ?_;clear hh h;intro h hh;obtain ⟨o3,H1,H⟩:=zad H;repeat apply TW.seq
 refine cu [] 0 (fun h bs=>∃ s_:Unit,o3=.inr s_∧(True)∧bs=[]) ?_ ?_
 ·skip;repeat apply TW.seq
  apply TW.block;repeat apply TW.seq
  refine TW.loopT [0,3] (fun m h bs=>∃ (i:Int),zek k l m i=some o3∧(h 0=strs l∧h 3=.int .i64 i)∧bs=[]) ?_ k _ _ ?_;rotate_left
  ·exact ⟨0,H1,kq hh,rfl⟩
  clear hh h H1;rintro m h bs ⟨i,H1,hh,rfl⟩;rcases m with _|m
  ·rw [zek] at H1;cases H1
  rw [zek] at H1;repeat apply TW.seq
  refine rk [0,3,9] [] hh ?_;clear hh h;intro h hh;rcases isp H1 with ⟨c1,H1⟩|⟨c1,H1⟩;rotate_left
  ·skip;repeat apply TW.seq
   refine cf (f2 hh (decide_eq_false c1)) ?_;refine xk ?_;cases H1;exact ce hh ⟨_,rfl,kq hh,rfl⟩
  repeat apply TW.seq
  refine ct (f2 hh (decide_eq_true c1)) ?_;repeat apply TW.seq
  refine sk ?_;obtain ⟨o2,H2,H1⟩:=zad H1;repeat apply TW.seq
  refine cu [0,3] 0 (fun h bs=>∃ s_2:Unit,o2=.inr s_2∧(h 0=strs l∧h 3=.int .i64 i)∧bs=[]) ?_ ?_
  ·skip;repeat apply TW.seq
   apply TW.block;obtain ⟨g2,H2⟩:=isg H2;obtain ⟨rName,e3,H2⟩:=zad H2;repeat apply TW.seq
   refine rkc [0,3,4] [] [(.bool rName,stL [])] (f2 hh (zal g2)) ?_ ?_
   ·exact ⟨zaj.call ((zzi ax hx k (gx l i) rName e3 ).call _),trivial⟩
   clear hh h;intro h hh;repeat apply TW.seq
   refine rk [0,3,18] [] hh ?_;clear hh h;intro h hh;rcases isb H2 with ⟨c4,H2⟩|⟨c4,H2⟩;rotate_left
   ·skip;repeat apply TW.seq
    refine ct (f2 hh c4) ?_;repeat apply TW.seq
    refine rk [2] [] (f2 hh c4) ?_;clear hh h;intro h hh;cases H2;obtain rfl:=sinm H1;obtain rfl:=sinl H;exact rt hh
   repeat apply TW.seq
   refine cf (f2 hh c4) ?_;repeat apply TW.seq
   refine sk ?_;repeat apply TW.seq
   refine rk [0,3,5] [] (f2 hh c4) ?_;clear hh h;intro h hh;obtain ⟨o,H3,H2⟩:=zad H2;repeat apply TW.seq
   refine cu [0,3] 0 (fun h bs=>∃ s_3:Unit,o=.inr s_3∧(h 0=strs l∧h 3=.int .i64 i)∧bs=[]) ?_ ?_
   ·skip;repeat apply TW.seq
    apply TW.block;repeat apply TW.seq
    refine TW.loopT [0,3,5] (fun m h bs=>∃ (k_:Int),zej k l i m k_=some o∧(h 0=strs l∧h 3=.int .i64 i∧h 5=.int .i64 k_)∧bs=[]) ?_ k _ _ ?_;rotate_left
    ·exact ⟨0,H3,kq hh,rfl⟩
    clear hh h H3;rintro m h bs ⟨k_,H3,hh,rfl⟩;rcases m with _|m
    ·rw [zej] at H3;cases H3
    rw [zej] at H3;repeat apply TW.seq
    refine rk [0,3,5,21] [] (f2 hh c4) ?_;clear hh h;intro h hh;rcases isp H3 with ⟨c5,H3⟩|⟨c5,H3⟩;rotate_left
    ·skip;repeat apply TW.seq
     refine cf (f2 hh (decide_eq_false c5)) ?_;refine xk ?_;cases H3;exact ce hh ⟨_,rfl,kq hh,rfl⟩
    repeat apply TW.seq
    refine ct (f2 hh (decide_eq_true c5)) ?_;repeat apply TW.seq
    refine sk ?_;repeat apply TW.seq
    apply TW.block;obtain ⟨g6,H3⟩:=isg H3;repeat apply TW.seq
    refine dk 8 [0,3,5,32] [] [] [] (f3 hh c4 (f2 (zal g6) (zal g2))) trivial trivial ?_;clear hh h;intro h hh;rcases isp H3 with ⟨c7,H3⟩|⟨c7,H3⟩;rotate_left
    ·skip;repeat apply TW.seq
     refine cf (f2 hh (decide_eq_false c7)) ?_;repeat apply TW.seq
     refine sk ?_;repeat apply TW.seq
     refine rk [0,3,5] [] (f2 hh c4) ?_;clear hh h;intro h hh;exact rd m hh ⟨(IntKind.i64.wrap (k_+1)),H3,kq hh,rfl⟩
    repeat apply TW.seq
    refine ct (f2 hh (decide_eq_true c7)) ?_;repeat apply TW.seq
    refine rk [2] [] (f2 hh c4) ?_;clear hh h;intro h hh;cases H3;obtain rfl:=sinm H2;obtain rfl:=sinm H1;obtain rfl:=sinl H;exact rt hh
   clear hh h;rintro h bs ⟨s_3,rfl,hh,rfl⟩;replace H2:=sinr H2;cases H2;exact ce hh ⟨_,rfl,kq hh,rfl⟩
  clear hh h;rintro h bs ⟨s_2,rfl,hh,rfl⟩;replace H1:=sinr H1;repeat apply TW.seq
  refine rk [0,3] [] hh ?_;clear hh h;intro h hh;exact rd m hh ⟨(IntKind.i64.wrap (i+1)),H1,kq hh,rfl⟩
 clear hh h;rintro h bs ⟨s_,rfl,hh,rfl⟩;replace H:=sinr H;repeat apply TW.seq
 refine rk [2] [] hh ?_;clear hh h;intro h hh;cases H;exact rt hh
def zgi (k:Nat) (n:Net) (k_:Int):Option Bool:=(if 0≤k_ then some (decide (k_<(n.nodes.length:Int))) else some false)
set_option maxHeartbeats 8000000 in
theorem zbz (ax:Axs) (hx:zbx ax) (k:Nat) (n:Net) (k_:Int) (v:Bool) (H:zgi k n k_=some v):Pure Tryz.prog (EE ax) [] 47 [eNet n,.int .i64 k_] (.bool v):=by
 rw [zgi] at H;refine en [.tmp 4] 14 [0,1] (hx.no _ (by decide)) (fn47 ax) ?_;intro h hh;repeat apply TW.seq
 refine rk [1,2] [] hh ?_;clear hh h;intro h hh;rcases isp H with ⟨c1,H⟩|⟨c1,H⟩;rotate_left
 ·skip;repeat apply TW.seq
  refine rk [4] [] (f2 hh (decide_eq_false c1)) ?_;clear hh h;intro h hh;cases H;exact rt hh
 repeat apply TW.seq
 refine rk [4] [] (f2 hh (decide_eq_true c1)) ?_;clear hh h;intro h hh;cases H;exact rt hh
def zep (k:Nat) (n:Net):Nat→Int→Option (Int ⊕ Unit)
 |0,_=>none
 |m+1,i=>(if i<(n.nodes.length:Int) then (if (0:Int)≤i∧i<(n.nodes.length:Int) then (if ((gx n.nodes i).rules)<0 then some (.inl 1) else (if 4000<((gx n.nodes i).rules) then some (.inl 1) else (if ((gx n.nodes i).entries)<0 then some (.inl 1) else (if 100000<((gx n.nodes i).entries) then some (.inl 1) else zep k n m (IntKind.i64.wrap (i+1)))))) else none) else some (.inr ()))
def zeo (k:Nat) (n:Net):Nat→Int→Option (Int ⊕ Unit)
 |0,_=>none
 |m+1,i2=>(if i2<(n.links.length:Int) then (if (0:Int)≤i2∧i2<(n.links.length:Int) then ((zgi k n ((gx n.links i2).frm)).bind fun risNode=>(if risNode=true then ((zgi k n ((gx n.links i2).to)).bind fun risNode2=>(if risNode2=true then (if ((gx n.links i2).frm)=((gx n.links i2).to) then some (.inl 1) else (if ((gx n.links i2).cap)<0 then some (.inl 1) else (if 1048576<((gx n.links i2).cap) then some (.inl 1) else zeo k n m (IntKind.i64.wrap (i2+1))))) else some (.inl 1))) else some (.inl 1))) else none) else some (.inr ()))
def zen (k:Nat) (n:Net):Nat→Int→Option (Int ⊕ Unit)
 |0,_=>none
 |m+1,i3=>(if i3<(n.edges.length:Int) then (if (0:Int)≤i3∧i3<(n.edges.length:Int) then ((zgi k n ((gx n.edges i3).node)).bind fun risNode3=>(if risNode3=true then zen k n m (IntKind.i64.wrap (i3+1)) else some (.inl 1))) else none) else some (.inr ()))
def zio (k:Nat) (n:Net):Option Int:=(((if 200<(n.nodes.length:Int) then some true else (if 2000<(n.links.length:Int) then some true else some (decide (400<(n.edges.length:Int))))):Option Bool).bind fun s_=>(if s_=true then some 2 else ((zj5 k n).bind fun rNames=>((zin k rNames.1).bind fun rnamed=>((zin k rNames.2).bind fun rnamed2=>(((if rnamed=true then some (!rnamed2) else some true):Option Bool).bind fun s_2=>(if s_2=true then some 4 else ((zep k n k 0:Option (Int ⊕ Unit)).bind fun o3=>Sum.elim (fun r=>some r) (fun s_3=>((zeo k n k 0:Option (Int ⊕ Unit)).bind fun o2=>Sum.elim (fun r=>some r) (fun s_4=>((zen k n k 0:Option (Int ⊕ Unit)).bind fun o=>Sum.elim (fun r=>some r) (fun s_5=>some 0) o)) o2)) o3))))))))
set_option maxHeartbeats 8000000 in
theorem zxq (ax:Axs) (hx:zbx ax) (k:Nat) (n:Net) (v:Int) (H:zio k n=some v):Pure Tryz.prog (EE ax) [] 10 [eNet n] (.int .i64 v):=by
 rw [zio] at H;refine en [.tmp 2] 130 [0] (hx.no _ (by decide)) (fn10 ax) ?_;intro h hh;repeat apply TW.seq
 refine rk [1] [] hh ?_;clear hh h;intro h hh;obtain ⟨s_,H1,H⟩:=zad H;repeat apply TW.seq
 refine cu [1,27] 1 (fun h bs=>(h 1=.ptr 0 0 3∧h 27=.bool s_)∧bs=[.cells true 3 [za6 n.nodes,za7 n.links,za8 n.edges]]) ?_ ?_
 ·skip;rcases isp H1 with ⟨c1,H1⟩|⟨c1,H1⟩;rotate_left
  ·skip;rcases isp H1 with ⟨c2,H1⟩|⟨c2,H1⟩;rotate_left
   ·skip;repeat apply TW.seq
    refine rk [1,27] [] (f3 hh (decide_eq_false c1) (decide_eq_false c2)) ?_;clear hh h;intro h hh;cases H1;exact ce hh ⟨kq hh,rfl⟩
   repeat apply TW.seq
   refine rk [1,27] [] (f3 hh (decide_eq_false c1) (decide_eq_true c2)) ?_;clear hh h;intro h hh;cases H1;exact ce hh ⟨kq hh,rfl⟩
  repeat apply TW.seq
  refine rk [1,27] [] (f2 hh (decide_eq_true c1)) ?_;clear hh h;intro h hh;cases H1;exact ce hh ⟨kq hh,rfl⟩
 clear hh h;rintro h bs ⟨hh,rfl⟩;rcases isb H with ⟨c3,H⟩|⟨c3,H⟩;rotate_left
 ·skip;repeat apply TW.seq
  refine cf (f2 hh c3) ?_;repeat apply TW.seq
  refine sk ?_;obtain ⟨rNames,e4,H⟩:=zad H;repeat apply TW.seq
  refine rkc [1,3,4] [] [(.tup [strs rNames.1,strs rNames.2],stL [.cells true 3 [za6 n.nodes,za7 n.links,za8 n.edges]])] (f2 hh c3) ?_ ?_
  ·exact ⟨zaj.call (Pure.clr (zxp ax hx k n rNames e4 ) (by first|rfl|simp only [c3])),trivial⟩
  clear hh h;intro h hh;obtain ⟨rnamed,e5,H⟩:=zad H;repeat apply TW.seq
  refine rkc [1,4,5] [] [(.bool rnamed,stL [.cells true 3 [za6 n.nodes,za7 n.links,za8 n.edges]])] (f2 hh c3) ?_ ?_
  ·exact ⟨zaj.call (Pure.clr (zn4 ax hx k rNames.1 rnamed e5 ) (by first|rfl|simp only [c3])),trivial⟩
  clear hh h;intro h hh;obtain ⟨rnamed2,e6,H⟩:=zad H;repeat apply TW.seq
  refine rkc [1,5,6] [] [(.bool rnamed2,stL [.cells true 3 [za6 n.nodes,za7 n.links,za8 n.edges]])] (f2 hh c3) ?_ ?_
  ·exact ⟨zaj.call (Pure.clr (zn4 ax hx k rNames.2 rnamed2 e6 ) (by first|rfl|simp only [c3])),trivial⟩
  clear hh h;intro h hh;obtain ⟨s_2,H1,H⟩:=zad H;repeat apply TW.seq
  refine cu [1,42] 1 (fun h bs=>(h 1=.ptr 0 0 3∧h 42=.bool s_2)∧bs=[.cells true 3 [za6 n.nodes,za7 n.links,za8 n.edges]]) ?_ ?_
  ·skip;rcases isb H1 with ⟨c7,H1⟩|⟨c7,H1⟩;rotate_left
   ·skip;repeat apply TW.seq
    refine rk [1,42] [] (f3 hh c7 c3) ?_;clear hh h;intro h hh;cases H1;exact ce hh ⟨kq hh,rfl⟩
   repeat apply TW.seq
   refine rk [1,42] [] (f3 hh c7 c3) ?_;clear hh h;intro h hh;cases H1;exact ce hh ⟨kq hh,rfl⟩
  clear hh h;rintro h bs ⟨hh,rfl⟩;rcases isb H with ⟨c8,H⟩|⟨c8,H⟩;rotate_left
  ·skip;repeat apply TW.seq
   refine cf (f2 hh c8) ?_;repeat apply TW.seq
   refine sk ?_;repeat apply TW.seq
   refine rk [1,7] [] (f3 hh c3 c8) ?_;clear hh h;intro h hh;obtain ⟨o3,H1,H⟩:=zad H;repeat apply TW.seq
   refine cu [1] 1 (fun h bs=>∃ s_3:Unit,o3=.inr s_3∧(h 1=.ptr 0 0 3)∧bs=[.cells true 3 [za6 n.nodes,za7 n.links,za8 n.edges]]) ?_ ?_
   ·skip;repeat apply TW.seq
    apply TW.block;repeat apply TW.seq
    refine TW.loopT [1,7] (fun m h bs=>∃ (i:Int),zep k n m i=some o3∧(h 1=.ptr 0 0 3∧h 7=.int .i64 i)∧bs=[.cells true 3 [za6 n.nodes,za7 n.links,za8 n.edges]]) ?_ k _ _ ?_;rotate_left
    ·exact ⟨0,H1,kq hh,rfl⟩
    clear hh h H1;rintro m h bs ⟨i,H1,hh,rfl⟩;rcases m with _|m
    ·rw [zep] at H1;cases H1
    rw [zep] at H1;repeat apply TW.seq
    refine rk [1,7,47] [] (f3 hh c3 c8) ?_;clear hh h;intro h hh;rcases isp H1 with ⟨c9,H1⟩|⟨c9,H1⟩;rotate_left
    ·skip;repeat apply TW.seq
     refine cf (f2 hh (decide_eq_false c9)) ?_;refine xk ?_;cases H1;exact ce hh ⟨_,rfl,kq hh,rfl⟩
    repeat apply TW.seq
    refine ct (f2 hh (decide_eq_true c9)) ?_;repeat apply TW.seq
    refine sk ?_;repeat apply TW.seq
    apply TW.block;obtain ⟨g10,H1⟩:=isg H1;repeat apply TW.seq
    refine rk [1,7,8] [] (f3 hh c3 (f2 c8 (zal g10))) ?_;clear hh h;intro h hh;rcases isp H1 with ⟨c11,H1⟩|⟨c11,H1⟩;rotate_left
    ·skip;rcases isp H1 with ⟨c12,H1⟩|⟨c12,H1⟩;rotate_left
     ·skip;rcases isp H1 with ⟨c13,H1⟩|⟨c13,H1⟩;rotate_left
      ·skip;repeat apply TW.seq
       refine rk [1,7,72] [] (f3 hh (decide_eq_false c11) (f3 (decide_eq_false c12) (decide_eq_false c13) (f2 c3 c8))) ?_;clear hh h;intro h hh;rcases isp H1 with ⟨c14,H1⟩|⟨c14,H1⟩;rotate_left
       ·skip;repeat apply TW.seq
        refine cf (f2 hh (decide_eq_false c14)) ?_;repeat apply TW.seq
        refine sk ?_;repeat apply TW.seq
        refine rk [1,7] [] (f3 hh c3 c8) ?_;clear hh h;intro h hh;exact rd m hh ⟨(IntKind.i64.wrap (i+1)),H1,kq hh,rfl⟩
       repeat apply TW.seq
       refine ct (f2 hh (decide_eq_true c14)) ?_;repeat apply TW.seq
       refine rk [2] [] (f3 hh c3 c8) ?_;clear hh h;intro h hh;cases H1;obtain rfl:=sinl H;exact rt hh
      repeat apply TW.seq
      refine rk [1,7,72] [] (f3 hh (decide_eq_false c11) (f3 (decide_eq_false c12) (decide_eq_true c13) (f2 c3 c8))) ?_;clear hh h;intro h hh;repeat apply TW.seq
      refine ct hh ?_;repeat apply TW.seq
      refine rk [2] [] (f3 hh c3 c8) ?_;clear hh h;intro h hh;cases H1;obtain rfl:=sinl H;exact rt hh
     repeat apply TW.seq
     refine rk [1,7,72] [] (f3 hh (decide_eq_false c11) (f3 (decide_eq_true c12) c3 c8)) ?_;clear hh h;intro h hh;repeat apply TW.seq
     refine ct hh ?_;repeat apply TW.seq
     refine rk [2] [] (f3 hh c3 c8) ?_;clear hh h;intro h hh;cases H1;obtain rfl:=sinl H;exact rt hh
    repeat apply TW.seq
    refine rk [1,7,72] [] (f3 hh (decide_eq_true c11) (f2 c3 c8)) ?_;clear hh h;intro h hh;repeat apply TW.seq
    refine ct hh ?_;repeat apply TW.seq
    refine rk [2] [] (f3 hh c3 c8) ?_;clear hh h;intro h hh;cases H1;obtain rfl:=sinl H;exact rt hh
   clear hh h;rintro h bs ⟨s_3,rfl,hh,rfl⟩;replace H:=sinr H;repeat apply TW.seq
   refine rk [1,9] [] (f3 hh c3 c8) ?_;clear hh h;intro h hh;obtain ⟨o2,H1,H⟩:=zad H;repeat apply TW.seq
   refine cu [1] 1 (fun h bs=>∃ s_4:Unit,o2=.inr s_4∧(h 1=.ptr 0 0 3)∧bs=[.cells true 3 [za6 n.nodes,za7 n.links,za8 n.edges]]) ?_ ?_
   ·skip;repeat apply TW.seq
    apply TW.block;repeat apply TW.seq
    refine TW.loopT [1,9] (fun m h bs=>∃ (i2:Int),zeo k n m i2=some o2∧(h 1=.ptr 0 0 3∧h 9=.int .i64 i2)∧bs=[.cells true 3 [za6 n.nodes,za7 n.links,za8 n.edges]]) ?_ k _ _ ?_;rotate_left
    ·exact ⟨0,H1,kq hh,rfl⟩
    clear hh h H1;rintro m h bs ⟨i2,H1,hh,rfl⟩;rcases m with _|m
    ·rw [zeo] at H1;cases H1
    rw [zeo] at H1;repeat apply TW.seq
    refine rk [1,9,77] [] (f3 hh c3 c8) ?_;clear hh h;intro h hh;rcases isp H1 with ⟨c15,H1⟩|⟨c15,H1⟩;rotate_left
    ·skip;repeat apply TW.seq
     refine cf (f2 hh (decide_eq_false c15)) ?_;refine xk ?_;cases H1;exact ce hh ⟨_,rfl,kq hh,rfl⟩
    repeat apply TW.seq
    refine ct (f2 hh (decide_eq_true c15)) ?_;repeat apply TW.seq
    refine sk ?_;repeat apply TW.seq
    apply TW.block;obtain ⟨g16,H1⟩:=isg H1;repeat apply TW.seq
    refine rk [1,9,10] [] (f3 hh c3 (f2 c8 (zal g16))) ?_;clear hh h;intro h hh;obtain ⟨risNode,e17,H1⟩:=zad H1;rcases isb H1 with ⟨c18,H1⟩|⟨c18,H1⟩;rotate_left
    ·skip;repeat apply TW.seq
     refine rkc [1,9,113] [] [(.bool risNode,stL [.cells true 3 [za6 n.nodes,za7 n.links,za8 n.edges],.cells true 3 [.int .i64 ((gx n.links i2).frm),.int .i64 ((gx n.links i2).to),.int .i64 ((gx n.links i2).cap)]])] (f3 hh c18 (f2 c3 c8)) ?_ ?_
     ·exact ⟨zaj.call (Pure.clr (zbz ax hx k n ((gx n.links i2).frm) risNode e17 ) (by first|rfl|simp only [c3,c8,c18])),trivial⟩
     clear hh h;intro h hh;repeat apply TW.seq
     refine ct hh ?_;repeat apply TW.seq
     refine rk [2] [] (f3 hh c3 (f2 c8 c18)) ?_;clear hh h;intro h hh;cases H1;obtain rfl:=sinl H;exact rt hh
    obtain ⟨risNode2,e19,H1⟩:=zad H1;rcases isb H1 with ⟨c20,H1⟩|⟨c20,H1⟩;rotate_left
    ·skip;repeat apply TW.seq
     refine rkc [1,9,113] [] [(.bool risNode,stL [.cells true 3 [za6 n.nodes,za7 n.links,za8 n.edges],.cells true 3 [.int .i64 ((gx n.links i2).frm),.int .i64 ((gx n.links i2).to),.int .i64 ((gx n.links i2).cap)]]),(.bool risNode2,stL [.cells true 3 [za6 n.nodes,za7 n.links,za8 n.edges],.cells true 3 [.int .i64 ((gx n.links i2).frm),.int .i64 ((gx n.links i2).to),.int .i64 ((gx n.links i2).cap)]])] (f3 hh c18 (f3 c20 c3 c8)) ?_ ?_
     ·exact ⟨zaj.call (Pure.clr (zbz ax hx k n ((gx n.links i2).frm) risNode e17 ) (by first|rfl|simp only [c3,c8,c18,c20])),zaj.call (Pure.clr (zbz ax hx k n ((gx n.links i2).to) risNode2 e19 ) (by first|rfl|simp only [c3,c8,c18,c20])),trivial⟩
     clear hh h;intro h hh;repeat apply TW.seq
     refine ct hh ?_;repeat apply TW.seq
     refine rk [2] [] (f3 hh c3 (f3 c8 c18 c20)) ?_;clear hh h;intro h hh;cases H1;obtain rfl:=sinl H;exact rt hh
    rcases isp H1 with ⟨c21,H1⟩|⟨c21,H1⟩;rotate_left
    ·skip;rcases isp H1 with ⟨c22,H1⟩|⟨c22,H1⟩;rotate_left
     ·skip;repeat apply TW.seq
      refine rkc [1,9,113] [] [(.bool risNode,stL [.cells true 3 [za6 n.nodes,za7 n.links,za8 n.edges],.cells true 3 [.int .i64 ((gx n.links i2).frm),.int .i64 ((gx n.links i2).to),.int .i64 ((gx n.links i2).cap)]]),(.bool risNode2,stL [.cells true 3 [za6 n.nodes,za7 n.links,za8 n.edges],.cells true 3 [.int .i64 ((gx n.links i2).frm),.int .i64 ((gx n.links i2).to),.int .i64 ((gx n.links i2).cap)]])] (f3 hh c18 (f3 c20 (decide_eq_false c21) (f3 (decide_eq_false c22) c3 c8))) ?_ ?_
      ·exact ⟨zaj.call (Pure.clr (zbz ax hx k n ((gx n.links i2).frm) risNode e17 ) (by first|rfl|simp only [c3,c8,c18,c20])),zaj.call (Pure.clr (zbz ax hx k n ((gx n.links i2).to) risNode2 e19 ) (by first|rfl|simp only [c3,c8,c18,c20])),trivial⟩
      clear hh h;intro h hh;rcases isp H1 with ⟨c23,H1⟩|⟨c23,H1⟩;rotate_left
      ·skip;repeat apply TW.seq
       refine cf (f2 hh (decide_eq_false c23)) ?_;repeat apply TW.seq
       refine sk ?_;repeat apply TW.seq
       refine rk [1,9] [] (f3 hh c3 (f3 c8 c18 c20)) ?_;clear hh h;intro h hh;exact rd m hh ⟨(IntKind.i64.wrap (i2+1)),H1,kq hh,rfl⟩
      repeat apply TW.seq
      refine ct (f2 hh (decide_eq_true c23)) ?_;repeat apply TW.seq
      refine rk [2] [] (f3 hh c3 (f3 c8 c18 c20)) ?_;clear hh h;intro h hh;cases H1;obtain rfl:=sinl H;exact rt hh
     repeat apply TW.seq
     refine rkc [1,9,113] [] [(.bool risNode,stL [.cells true 3 [za6 n.nodes,za7 n.links,za8 n.edges],.cells true 3 [.int .i64 ((gx n.links i2).frm),.int .i64 ((gx n.links i2).to),.int .i64 ((gx n.links i2).cap)]]),(.bool risNode2,stL [.cells true 3 [za6 n.nodes,za7 n.links,za8 n.edges],.cells true 3 [.int .i64 ((gx n.links i2).frm),.int .i64 ((gx n.links i2).to),.int .i64 ((gx n.links i2).cap)]])] (f3 hh c18 (f3 c20 (decide_eq_false c21) (f3 (decide_eq_true c22) c3 c8))) ?_ ?_
     ·exact ⟨zaj.call (Pure.clr (zbz ax hx k n ((gx n.links i2).frm) risNode e17 ) (by first|rfl|simp only [c3,c8,c18,c20])),zaj.call (Pure.clr (zbz ax hx k n ((gx n.links i2).to) risNode2 e19 ) (by first|rfl|simp only [c3,c8,c18,c20])),trivial⟩
     clear hh h;intro h hh;repeat apply TW.seq
     refine ct hh ?_;repeat apply TW.seq
     refine rk [2] [] (f3 hh c3 (f3 c8 c18 c20)) ?_;clear hh h;intro h hh;cases H1;obtain rfl:=sinl H;exact rt hh
    repeat apply TW.seq
    refine rkc [1,9,113] [] [(.bool risNode,stL [.cells true 3 [za6 n.nodes,za7 n.links,za8 n.edges],.cells true 3 [.int .i64 ((gx n.links i2).frm),.int .i64 ((gx n.links i2).to),.int .i64 ((gx n.links i2).cap)]]),(.bool risNode2,stL [.cells true 3 [za6 n.nodes,za7 n.links,za8 n.edges],.cells true 3 [.int .i64 ((gx n.links i2).frm),.int .i64 ((gx n.links i2).to),.int .i64 ((gx n.links i2).cap)]])] (f3 hh c18 (f3 c20 (decide_eq_true c21) (f2 c3 c8))) ?_ ?_
    ·exact ⟨zaj.call (Pure.clr (zbz ax hx k n ((gx n.links i2).frm) risNode e17 ) (by first|rfl|simp only [c3,c8,c18,c20])),zaj.call (Pure.clr (zbz ax hx k n ((gx n.links i2).to) risNode2 e19 ) (by first|rfl|simp only [c3,c8,c18,c20])),trivial⟩
    clear hh h;intro h hh;repeat apply TW.seq
    refine ct hh ?_;repeat apply TW.seq
    refine rk [2] [] (f3 hh c3 (f3 c8 c18 c20)) ?_;clear hh h;intro h hh;cases H1;obtain rfl:=sinl H;exact rt hh
   clear hh h;rintro h bs ⟨s_4,rfl,hh,rfl⟩;replace H:=sinr H;repeat apply TW.seq
   refine rk [1,11] [] (f3 hh c3 c8) ?_;clear hh h;intro h hh;obtain ⟨o,H1,H⟩:=zad H;repeat apply TW.seq
   refine cu [] 1 (fun h bs=>∃ s_5:Unit,o=.inr s_5∧(True)∧bs=[.cells true 3 [za6 n.nodes,za7 n.links,za8 n.edges]]) ?_ ?_
   ·skip;repeat apply TW.seq
    apply TW.block;repeat apply TW.seq
    refine TW.loopT [1,11] (fun m h bs=>∃ (i3:Int),zen k n m i3=some o∧(h 1=.ptr 0 0 3∧h 11=.int .i64 i3)∧bs=[.cells true 3 [za6 n.nodes,za7 n.links,za8 n.edges]]) ?_ k _ _ ?_;rotate_left
    ·exact ⟨0,H1,kq hh,rfl⟩
    clear hh h H1;rintro m h bs ⟨i3,H1,hh,rfl⟩;rcases m with _|m
    ·rw [zen] at H1;cases H1
    rw [zen] at H1;repeat apply TW.seq
    refine rk [1,11,118] [] (f3 hh c3 c8) ?_;clear hh h;intro h hh;rcases isp H1 with ⟨c24,H1⟩|⟨c24,H1⟩;rotate_left
    ·skip;repeat apply TW.seq
     refine cf (f2 hh (decide_eq_false c24)) ?_;refine xk ?_;cases H1;exact ce hh ⟨_,rfl,kq hh,rfl⟩
    repeat apply TW.seq
    refine ct (f2 hh (decide_eq_true c24)) ?_;repeat apply TW.seq
    refine sk ?_;repeat apply TW.seq
    apply TW.block;obtain ⟨g25,H1⟩:=isg H1;obtain ⟨risNode3,e26,H1⟩:=zad H1;repeat apply TW.seq
    refine dk 7 [1,11,129] [] [] [(.bool risNode3,stL [.cells true 3 [za6 n.nodes,za7 n.links,za8 n.edges]])] (f3 hh c3 (f2 c8 (zal g25))) trivial ?_ ?_
    ·exact ⟨zaj.call (Pure.clr (zbz ax hx k n ((gx n.edges i3).node) risNode3 e26 ) (by first|rfl|simp only [c3,c8])),trivial⟩
    clear hh h;intro h hh;rcases isb H1 with ⟨c27,H1⟩|⟨c27,H1⟩;rotate_left
    ·skip;repeat apply TW.seq
     refine ct (f2 hh c27) ?_;repeat apply TW.seq
     refine rk [2] [] (f3 hh c3 (f2 c8 c27)) ?_;clear hh h;intro h hh;cases H1;obtain rfl:=sinl H;exact rt hh
    repeat apply TW.seq
    refine cf (f2 hh c27) ?_;repeat apply TW.seq
    refine sk ?_;repeat apply TW.seq
    refine rk [1,11] [] (f3 hh c3 (f2 c8 c27)) ?_;clear hh h;intro h hh;exact rd m hh ⟨(IntKind.i64.wrap (i3+1)),H1,kq hh,rfl⟩
   clear hh h;rintro h bs ⟨s_5,rfl,hh,rfl⟩;replace H:=sinr H;repeat apply TW.seq
   refine rk [2] [] (f3 hh c3 c8) ?_;clear hh h;intro h hh;cases H;exact rt hh
  repeat apply TW.seq
  refine ct (f2 hh c8) ?_;repeat apply TW.seq
  refine rk [2] [] (f3 hh c3 c8) ?_;clear hh h;intro h hh;cases H;exact rt hh
 repeat apply TW.seq
 refine ct (f2 hh c3) ?_;repeat apply TW.seq
 refine rk [2] [] (f2 hh c3) ?_;clear hh h;intro h hh;cases H;exact rt hh
def zfe (k:Nat) (t:List Rule) (k_:Int):Nat→Int→Option (Bool ⊕ Unit)
 |0,_=>none
 |m+1,i=>(if i<(((gx t k_).outs).length:Int) then (if (0:Int)≤i∧i<(((gx t k_).outs).length:Int) then (if 10<((gx ((gx t k_).outs) i).length:Int) then some (.inl false) else zfe k t k_ m (IntKind.i64.wrap (i+1))) else none) else some (.inr ()))
def zff (k:Nat) (t:List Rule):Nat→Int→Option (Bool ⊕ Unit)
 |0,_=>none
 |m+1,k_=>(if k_<(t.length:Int) then (((if (0:Int)≤k_∧k_<(t.length:Int) then (if 20<(((gx t k_).outs).length:Int) then some (.inl false) else ((zfe k t k_ k 0:Option (Bool ⊕ Unit)).bind fun o=>Sum.elim (fun r=>some (.inl r)) (fun s_3=>some (.inr ())) o)) else none):Option (Bool ⊕ Unit)).bind fun o2=>Sum.elim (fun r=>some (.inl r)) (fun s_2=>zff k t m (IntKind.i64.wrap (k_+1))) o2) else some (.inr ()))
def zn3 (k:Nat) (t:List Rule) (most:Int):Option Bool:=((zff k t k 0:Option (Bool ⊕ Unit)).bind fun o3=>Sum.elim (fun r=>some r) (fun s_=>some (decide ((t.length:Int)≤most))) o3)
set_option maxHeartbeats 8000000 in
theorem z2k (ax:Axs) (hx:zbx ax) (k:Nat) (t:List Rule) (most:Int) (v:Bool) (H:zn3 k t most=some v):Pure Tryz.prog (EE ax) [] 11 [zao t,.int .i64 most] (.bool v):=by
 rw [zn3] at H;refine en [.tmp 4] 44 [0,1] (hx.no _ (by decide)) (fn11 ax) ?_;intro h hh;repeat apply TW.seq
 refine rk [0,1] [] hh ?_;clear hh h;intro h hh;repeat apply TW.seq
 refine rk [0,1,5] [] hh ?_;clear hh h;intro h hh;obtain ⟨o3,H1,H⟩:=zad H;repeat apply TW.seq
 refine cu [0,1] 0 (fun h bs=>∃ s_:Unit,o3=.inr s_∧(h 0=zao t∧h 1=.int .i64 most)∧bs=[]) ?_ ?_
 ·skip;repeat apply TW.seq
  apply TW.block;repeat apply TW.seq
  refine TW.loopT [0,1,5] (fun m h bs=>∃ (k_:Int),zff k t m k_=some o3∧(h 0=zao t∧h 1=.int .i64 most∧h 5=.int .i64 k_)∧bs=[]) ?_ k _ _ ?_;rotate_left
  ·exact ⟨0,H1,kq hh,rfl⟩
  clear hh h H1;rintro m h bs ⟨k_,H1,hh,rfl⟩;rcases m with _|m
  ·rw [zff] at H1;cases H1
  rw [zff] at H1;repeat apply TW.seq
  refine rk [0,1,5,10] [] hh ?_;clear hh h;intro h hh;rcases isp H1 with ⟨c1,H1⟩|⟨c1,H1⟩;rotate_left
  ·skip;repeat apply TW.seq
   refine cf (f2 hh (decide_eq_false c1)) ?_;refine xk ?_;cases H1;exact ce hh ⟨_,rfl,kq hh,rfl⟩
  repeat apply TW.seq
  refine ct (f2 hh (decide_eq_true c1)) ?_;repeat apply TW.seq
  refine sk ?_;obtain ⟨o2,H2,H1⟩:=zad H1;repeat apply TW.seq
  refine cu [0,1,5] 0 (fun h bs=>∃ s_2:Unit,o2=.inr s_2∧(h 0=zao t∧h 1=.int .i64 most∧h 5=.int .i64 k_)∧bs=[]) ?_ ?_
  ·skip;repeat apply TW.seq
   apply TW.block;obtain ⟨g2,H2⟩:=isg H2;repeat apply TW.seq
   refine rk [0,1,5,19] [] (f2 hh (zal g2)) ?_;clear hh h;intro h hh;rcases isp H2 with ⟨c3,H2⟩|⟨c3,H2⟩;rotate_left
   ·skip;repeat apply TW.seq
    refine cf (f2 hh (decide_eq_false c3)) ?_;repeat apply TW.seq
    refine sk ?_;repeat apply TW.seq
    refine rk [0,1,5,6] [] hh ?_;clear hh h;intro h hh;obtain ⟨o,H3,H2⟩:=zad H2;repeat apply TW.seq
    refine cu [0,1,5] 0 (fun h bs=>∃ s_3:Unit,o=.inr s_3∧(h 0=zao t∧h 1=.int .i64 most∧h 5=.int .i64 k_)∧bs=[]) ?_ ?_
    ·skip;repeat apply TW.seq
     apply TW.block;repeat apply TW.seq
     refine TW.loopT [0,1,5,6] (fun m h bs=>∃ (i:Int),zfe k t k_ m i=some o∧(h 0=zao t∧h 1=.int .i64 most∧h 5=.int .i64 k_∧h 6=.int .i64 i)∧bs=[]) ?_ k _ _ ?_;rotate_left
     ·exact ⟨0,H3,kq hh,rfl⟩
     clear hh h H3;rintro m h bs ⟨i,H3,hh,rfl⟩;rcases m with _|m
     ·rw [zfe] at H3;cases H3
     rw [zfe] at H3;repeat apply TW.seq
     refine rk [0,1,5,6,27] [] (f2 hh (zal g2)) ?_;clear hh h;intro h hh;rcases isp H3 with ⟨c4,H3⟩|⟨c4,H3⟩;rotate_left
     ·skip;repeat apply TW.seq
      refine cf (f2 hh (decide_eq_false c4)) ?_;refine xk ?_;cases H3;exact ce hh ⟨_,rfl,kq hh,rfl⟩
     repeat apply TW.seq
     refine ct (f2 hh (decide_eq_true c4)) ?_;repeat apply TW.seq
     refine sk ?_;repeat apply TW.seq
     apply TW.block;obtain ⟨g5,H3⟩:=isg H3;repeat apply TW.seq
     refine rk [0,1,5,6,39] [] (f3 hh (zal g2) (zal g5)) ?_;clear hh h;intro h hh;rcases isp H3 with ⟨c6,H3⟩|⟨c6,H3⟩;rotate_left
     ·skip;repeat apply TW.seq
      refine cf (f2 hh (decide_eq_false c6)) ?_;repeat apply TW.seq
      refine sk ?_;repeat apply TW.seq
      refine rk [0,1,5,6] [] hh ?_;clear hh h;intro h hh;exact rd m hh ⟨(IntKind.i64.wrap (i+1)),H3,kq hh,rfl⟩
     repeat apply TW.seq
     refine ct (f2 hh (decide_eq_true c6)) ?_;repeat apply TW.seq
     refine rk [4] [] hh ?_;clear hh h;intro h hh;cases H3;obtain rfl:=sinm H2;obtain rfl:=sinm H1;obtain rfl:=sinl H;exact rt hh
    clear hh h;rintro h bs ⟨s_3,rfl,hh,rfl⟩;replace H2:=sinr H2;cases H2;exact ce hh ⟨_,rfl,kq hh,rfl⟩
   repeat apply TW.seq
   refine ct (f2 hh (decide_eq_true c3)) ?_;repeat apply TW.seq
   refine rk [4] [] hh ?_;clear hh h;intro h hh;cases H2;obtain rfl:=sinm H1;obtain rfl:=sinl H;exact rt hh
  clear hh h;rintro h bs ⟨s_2,rfl,hh,rfl⟩;replace H1:=sinr H1;repeat apply TW.seq
  refine rk [0,1,5] [] hh ?_;clear hh h;intro h hh;exact rd m hh ⟨(IntKind.i64.wrap (k_+1)),H1,kq hh,rfl⟩
 clear hh h;rintro h bs ⟨s_,rfl,hh,rfl⟩;replace H:=sinr H;repeat apply TW.seq
 refine rk [4] [] hh ?_;clear hh h;intro h hh;cases H;exact rt hh
end
section
open Go Go.RowKit
set_option maxRecDepth 100000
def zdb (k:Nat) (p:Pat) (h_:Ar 10):Nat→Int→Option (Bool ⊕ Unit)
 |0,_=>none
 |m+1,i=>(if i<10 then (if (0:Int)≤i∧i<(10:Int) then (if (iAnd .i64 (iXor .i64 (gx p.bits.l i) (gx h_.l i)) (gx p.mask.l i))≠0 then some (.inl false) else zdb k p h_ m (IntKind.i64.wrap (i+1))) else none) else some (.inr ()))
def zi0 (k:Nat) (p:Pat) (h_:Ar 10):Option Bool:=((zdb k p h_ k 0:Option (Bool ⊕ Unit)).bind fun o=>Sum.elim (fun r=>some r) (fun s_=>some true) o)
set_option maxHeartbeats 8000000 in
theorem zuj (ax:Axs) (hx:zbx ax) (k:Nat) (p:Pat) (h_:Ar 10) (v:Bool) (H:zi0 k p h_=some v):Pure Tryz.prog (EE ax) [] 64 [ePat p,.agg (h_.l.map (T.int .i64))] (.bool v):=by
 rw [zi0] at H;refine en [.tmp 4] 24 [0,1] (hx.no _ (by decide)) (fn64 ax) ?_;intro h hh;repeat apply TW.seq
 refine rk [2,3] [] hh ?_;clear hh h;intro h hh;repeat apply TW.seq
 refine rk [2,3,6] [] hh ?_;clear hh h;intro h hh;obtain ⟨o,H1,H⟩:=zad H;repeat apply TW.seq
 refine cu [] 2 (fun h bs=>∃ s_:Unit,o=.inr s_∧(True)∧bs=[.cells true 20 (p.mask.l.map (T.int .i64)++(p.bits.l.map (T.int .i64))),.cells true 10 (h_.l.map (T.int .i64))]) ?_ ?_
 ·skip;repeat apply TW.seq
  apply TW.block;repeat apply TW.seq
  refine TW.loopT [2,3,6] (fun m h bs=>∃ (i:Int),zdb k p h_ m i=some o∧(h 2=.ptr 0 0 20∧h 3=.ptr 1 0 10∧h 6=.int .i64 i)∧bs=[.cells true 20 (p.mask.l.map (T.int .i64)++(p.bits.l.map (T.int .i64))),.cells true 10 (h_.l.map (T.int .i64))]) ?_ k _ _ ?_;rotate_left
  ·exact ⟨0,H1,kq hh,rfl⟩
  clear hh h H1;rintro m h bs ⟨i,H1,hh,rfl⟩;rcases m with _|m
  ·rw [zdb] at H1;cases H1
  rw [zdb] at H1;repeat apply TW.seq
  refine rk [2,3,6,7] [] hh ?_;clear hh h;intro h hh;rcases isp H1 with ⟨c1,H1⟩|⟨c1,H1⟩;rotate_left
  ·skip;repeat apply TW.seq
   refine cf (f2 hh (decide_eq_false c1)) ?_;refine xk ?_;cases H1;exact ce hh ⟨_,rfl,kq hh,rfl⟩
  repeat apply TW.seq
  refine ct (f2 hh (decide_eq_true c1)) ?_;repeat apply TW.seq
  refine sk ?_;repeat apply TW.seq
  apply TW.block;repeat apply TW.seq
  refine rk [2,3,5,6] [] hh ?_;clear hh h;intro h hh;obtain ⟨g2,H1⟩:=isg H1;repeat apply TW.seq
  refine dk 12 [2,3,6,22] [] [] [] (f3 hh (zqq (k:=.i64) (off:=10) (L:=(p.mask.l.map (T.int .i64)++(p.bits.l.map (T.int .i64)))) (r:=[]) p.bits g2) (f2 (arIx h_ g2) (zpt (k:=.i64) (L:=(p.mask.l.map (T.int .i64)++(p.bits.l.map (T.int .i64)))) (r:=(p.bits.l.map (T.int .i64))) p.mask g2))) trivial trivial ?_;clear hh h;intro h hh;rcases isp H1 with ⟨c3,H1⟩|⟨c3,H1⟩;rotate_left
  ·skip;repeat apply TW.seq
   refine cf (f2 hh (decide_eq_false c3)) ?_;repeat apply TW.seq
   refine sk ?_;repeat apply TW.seq
   refine rk [2,3,6] [] hh ?_;clear hh h;intro h hh;exact rd m hh ⟨(IntKind.i64.wrap (i+1)),H1,kq hh,rfl⟩
  repeat apply TW.seq
  refine ct (f2 hh (decide_eq_true c3)) ?_;repeat apply TW.seq
  refine rk [4] [] hh ?_;clear hh h;intro h hh;cases H1;obtain rfl:=sinl H;exact rt hh
 clear hh h;rintro h bs ⟨s_,rfl,hh,rfl⟩;replace H:=sinr H;repeat apply TW.seq
 refine rk [4] [] hh ?_;clear hh h;intro h hh;cases H;exact rt hh
def zfc (k:Nat) (r:Rule) (fv:Ar 10):Option Bool:=((zi0 k r.mat fv).bind fun rMatch=>some rMatch)
set_option maxHeartbeats 8000000 in
theorem zjf (ax:Axs) (hx:zbx ax) (k:Nat) (r:Rule) (fv:Ar 10) (v:Bool) (H:zfc k r fv=some v):Pure Tryz.prog (EE ax) [] 63 [zas r,.cp (fv.l.map (T.int .i64))] (.bool v):=by
 rw [zfc] at H;refine en [.tmp 3] 8 [0,1] (hx.no _ (by decide)) (fn63 ax) ?_;intro h hh;repeat apply TW.seq
 refine rk [1,2] [] hh ?_;clear hh h;intro h hh;obtain ⟨rMatch,e1,H⟩:=zad H;repeat apply TW.seq
 refine rkc [3] [] [(.bool rMatch,stL [.cells true 23 (T.int .i64 r.prio :: (r.mat.mask.l.map (T.int .i64)++(r.mat.bits.l.map (T.int .i64)++[T.int .i64 r.step,za4 r.outs])))])] hh ?_ ?_
 ·exact ⟨zaj.call ((zuj ax hx k r.mat fv rMatch e1 ).call _),trivial⟩
 clear hh h;intro h hh;cases H;exact rt hh
def zaz (k:Nat) (s_:List Rule) (f_:Rule→Option Bool):Nat→Int→Option (Int ⊕ Unit)
 |0,_=>none
 |m+1,i=>(if i<(s_.length:Int) then (if (0:Int)≤i∧i<(s_.length:Int) then ((f_ (gx s_ i)).bind fun r=>(if r=true then some (.inl i) else zaz k s_ f_ m (IntKind.i64.wrap (i+1)))) else none) else some (.inr ()))
def zcf (k:Nat) (s_:List Rule) (f_:Rule→Option Bool):Option Int:=((zaz k s_ f_ k 0:Option (Int ⊕ Unit)).bind fun o=>Sum.elim (fun r=>some r) (fun s_2=>some (-1)) o)
set_option maxHeartbeats 8000000 in
theorem zjo (ax:Axs) (hx:zbx ax) (k:Nat) (s_:List Rule) (f_:Rule→Option Bool) (v:Int) (H:zcf k s_ f_=some v) (f__f:Nat) (f__c:List T) (f__i:T.idsL 0 f__c=true) (f__h:∀ (y0:Rule) (w:Bool),f_ y0=some w→Pure Tryz.prog (EE ax) [] f__f ([]++[zas y0]++f__c) (.bool w)):Pure Tryz.prog (EE ax) [] 62 [zao s_,.fn f__f [] f__c] (.int .i64 v):=by
 rw [zcf] at H;refine en (ha:=by simp only [zb3,zcs,idsA,idsB,f__i,Bool.and_self]) [.tmp 4] 19 [0,1] (hx.no _ (by decide)) (fn62 ax) ?_;intro h hh;repeat apply TW.seq
 refine rk [0,1] [] hh ?_;clear hh h;intro h hh;repeat apply TW.seq
 refine rk [0,1,7,8] [] hh ?_;clear hh h;intro h hh;obtain ⟨o,H1,H⟩:=zad H;repeat apply TW.seq
 refine cu [] 0 (fun h bs=>∃ s_2:Unit,o=.inr s_2∧(True)∧bs=[]) ?_ ?_
 ·skip;repeat apply TW.seq
  apply TW.block;repeat apply TW.seq
  refine TW.loopT [0,1,7,8] (fun m h bs=>∃ (i:Int),zaz k s_ f_ m i=some o∧(h 0=zao s_∧h 1=.fn f__f [] f__c∧h 7=.int .i64 (s_.length:Int)∧h 8=.int .i64 i)∧bs=[]) ?_ k _ _ ?_;rotate_left
  ·exact ⟨0,H1,kq hh,rfl⟩
  clear hh h H1;rintro m h bs ⟨i,H1,hh,rfl⟩;rcases m with _|m
  ·rw [zaz] at H1;cases H1
  rw [zaz] at H1;repeat apply TW.seq
  refine rk [0,1,7,8,9] [] hh ?_;clear hh h;intro h hh;rcases isp H1 with ⟨c1,H1⟩|⟨c1,H1⟩;rotate_left
  ·skip;repeat apply TW.seq
   refine cf (f2 hh (decide_eq_false c1)) ?_;refine xk ?_;cases H1;exact ce (f2 hh ((fun m=>zfm (Nat.zero_le m) f__i))) ⟨_,rfl,kq hh,rfl⟩
  repeat apply TW.seq
  refine ct (f2 hh (decide_eq_true c1)) ?_;repeat apply TW.seq
  refine sk ?_;repeat apply TW.seq
  apply TW.block;repeat apply TW.seq
  refine rk [0,1,5,7,8] [] hh ?_;clear hh h;intro h hh;obtain ⟨g2,H1⟩:=isg H1;obtain ⟨r,e3,H1⟩:=zad H1;repeat apply TW.seq
  refine rkc [0,1,5,7,8,16] [] [(.bool r,stL [])] (f2 hh (zal g2)) ?_ ?_
  ·exact ⟨zaj.call ((f__h (gx s_ i) r e3).call _),trivial⟩
  clear hh h;intro h hh;rcases isb H1 with ⟨c4,H1⟩|⟨c4,H1⟩;rotate_left
  ·skip;repeat apply TW.seq
   refine cf (f2 hh c4) ?_;repeat apply TW.seq
   refine sk ?_;repeat apply TW.seq
   refine rk [0,1,7,8] [] (f2 hh c4) ?_;clear hh h;intro h hh;exact rd m (f2 hh ((fun m=>zfm (Nat.zero_le m) f__i))) ⟨(IntKind.i64.wrap (i+1)),H1,kq hh,rfl⟩
  repeat apply TW.seq
  refine ct (f2 hh c4) ?_;repeat apply TW.seq
  refine rk [4] [] (f2 hh c4) ?_;clear hh h;intro h hh;cases H1;obtain rfl:=sinl H;exact rt hh
 clear hh h;rintro h bs ⟨s_2,rfl,hh,rfl⟩;replace H:=sinr H;repeat apply TW.seq
 refine rk [4] [] hh ?_;clear hh h;intro h hh;cases H;exact rt hh
def zfq (k:Nat) (t:List Rule) (h_:Ar 10):Option Int:=((zcf k t (fun y=>zfc k y h_)).bind fun rRule=>some rRule)
set_option maxHeartbeats 8000000 in
theorem zlc (ax:Axs) (hx:zbx ax) (k:Nat) (t:List Rule) (h_:Ar 10) (v:Int) (H:zfq k t h_=some v):Pure Tryz.prog (EE ax) [] 25 [zao t,.agg (h_.l.map (T.int .i64))] (.int .i64 v):=by
 rw [zfq] at H;refine en [.tmp 4] 8 [0,1] (hx.no _ (by decide)) (fn25 ax) ?_;intro h hh;repeat apply TW.seq
 refine rk [0,3] [] hh ?_;clear hh h;intro h hh;refine zk 3 0 10 true (h_.l.map (T.int .i64)) [0,3] hh ?_;clear hh h;intro h hh;obtain ⟨rRule,e1,H⟩:=zad H;repeat apply TW.seq
 refine rkc [4] [] [(.int .i64 rRule,stL [.gone])] hh ?_ ?_
 ·exact ⟨zaj.call ((zjo ax hx k t (fun y=>zfc k y h_) rRule e1 63 [.cp (h_.l.map (T.int .i64))] (by simp only [zb3,zcs,idsA,idsB,Bool.and_self]) (fun y w hw=>by first|exact zjf ax hx k y h_ w hw|exact (zjf ax hx k y h_ w hw))).call _),trivial⟩
 clear hh h;intro h hh;cases H;exact rt hh
def zeq (k:Nat) (i:Int):Nat→Int→Int→Option Int
 |0,_,_=>none
 |m+1,v_,k_=>(if (0:Int)≤i∧0<16 then (if k_<(i % 16) then (if (0:Int)≤v_∧0<2 then zeq k i m (IntKind.i64.wrap (v_ / 2)) (IntKind.i64.wrap (k_+1)) else none) else some v_) else none)
def ziq (k:Nat) (i:Int):Option Int:=((zeq k i k 32768 0:Option Int).bind fun s_=>some s_)
set_option maxHeartbeats 8000000 in
theorem zn6 (ax:Axs) (hx:zbx ax) (k:Nat) (i:Int) (v:Int) (H:ziq k i=some v):Pure Tryz.prog (EE ax) [] 137 [.int .i64 i] (.int .i64 v):=by
 rw [ziq] at H;refine en [.tmp 2] 14 [0] (hx.no _ (by decide)) (fn137 ax) ?_;intro h hh;repeat apply TW.seq
 refine rk [0] [] hh ?_;clear hh h;intro h hh;repeat apply TW.seq
 refine rk [0,3] [] hh ?_;clear hh h;intro h hh;repeat apply TW.seq
 refine rk [0,3,4] [] hh ?_;clear hh h;intro h hh;obtain ⟨s_,H1,H⟩:=zad H;repeat apply TW.seq
 refine cu [3] 0 (fun h bs=>(h 3=.int .i64 s_)∧bs=[]) ?_ ?_
 ·skip;repeat apply TW.seq
  apply TW.block;repeat apply TW.seq
  refine TW.loopT [0,3,4] (fun m h bs=>∃ (v_:Int) (k_:Int),zeq k i m v_ k_=some s_∧(h 0=.int .i64 i∧h 3=.int .i64 v_∧h 4=.int .i64 k_)∧bs=[]) ?_ k _ _ ?_;rotate_left
  ·exact ⟨32768,0,H1,kq hh,rfl⟩
  clear hh h H1;rintro m h bs ⟨v_,k_,H1,hh,rfl⟩;rcases m with _|m
  ·rw [zeq] at H1;cases H1
  rw [zeq] at H1;obtain ⟨g1,H1⟩:=isg H1;repeat apply TW.seq
  refine rk [0,3,4,8] [] hh ?_;clear hh h;intro h hh;rcases isp H1 with ⟨c2,H1⟩|⟨c2,H1⟩;rotate_left
  ·skip;repeat apply TW.seq
   refine cf (f2 hh (decide_eq_false c2)) ?_;refine xk ?_;cases H1;exact ce hh ⟨kq hh,rfl⟩
  repeat apply TW.seq
  refine ct (f2 hh (decide_eq_true c2)) ?_;repeat apply TW.seq
  refine sk ?_;repeat apply TW.seq
  apply TW.block;obtain ⟨g3,H1⟩:=isg H1;repeat apply TW.seq
  refine rk [0,3,4] [] hh ?_;clear hh h;intro h hh;repeat apply TW.seq
  refine rk [0,3,4] [] hh ?_;clear hh h;intro h hh;exact rd m hh ⟨(IntKind.i64.wrap (v_ / 2)),(IntKind.i64.wrap (k_+1)),H1,kq hh,rfl⟩
 clear hh h;rintro h bs ⟨hh,rfl⟩;repeat apply TW.seq
 refine rk [2] [] hh ?_;clear hh h;intro h hh;cases H;exact rt hh
def zd6 (k:Nat) (h_:Ar 10) (i:Int):Option Int:=(if (0:Int)≤i∧0<16 then (if (0:Int)≤(IntKind.i64.wrap (i / 16))∧(IntKind.i64.wrap (i / 16))<(10:Int) then ((ziq k i).bind fun rvalue=>(if (0:Int)≤(gx h_.l (IntKind.i64.wrap (i / 16)))∧0<rvalue then (if (0:Int)≤(IntKind.i64.wrap ((gx h_.l (IntKind.i64.wrap (i / 16))) / rvalue))∧0<2 then some ((IntKind.i64.wrap ((gx h_.l (IntKind.i64.wrap (i / 16))) / rvalue)) % 2) else none) else none)) else none) else none)
set_option maxHeartbeats 8000000 in
theorem zb1 (ax:Axs) (hx:zbx ax) (k:Nat) (h_:Ar 10) (i:Int) (v:Int) (H:zd6 k h_ i=some v):Pure Tryz.prog (EE ax) [] 114 [.agg (h_.l.map (T.int .i64)),.int .i64 i] (.int .i64 v):=by
 rw [zd6] at H;refine en [.tmp 4] 13 [0,1] (hx.no _ (by decide)) (fn114 ax) ?_;intro h hh;repeat apply TW.seq
 refine rk [1,2] [] hh ?_;clear hh h;intro h hh;obtain ⟨g1,H⟩:=isg H;obtain ⟨g2,H⟩:=isg H;obtain ⟨rvalue,e3,H⟩:=zad H;obtain ⟨g4,H⟩:=isg H;obtain ⟨g5,H⟩:=isg H;repeat apply TW.seq
 refine dk 6 [4] [.int .i64 rvalue] [] [] (f2 hh (arIx h_ g2)) ?_ trivial ?_
 ·exact ⟨(zn6 ax hx k i rvalue e3 ).call _,trivial⟩
 clear hh h;intro h hh;cases H;exact rt hh
def zgh (k:Nat) (h_:Ar 10) (i:Int) (b:Int):Option (Ar 10):=(if (0:Int)≤i∧0<16 then (if (0:Int)≤(IntKind.i64.wrap (i / 16))∧(IntKind.i64.wrap (i / 16))<(10:Int) then ((zd6 k h_ i).bind fun rBit=>((ziq k i).bind fun rvalue=>some (h_.set (IntKind.i64.wrap (i / 16)) (IntKind.i64.wrap ((gx h_.l (IntKind.i64.wrap (i / 16)))+(IntKind.i64.wrap ((IntKind.i64.wrap (b - rBit))*rvalue))))))) else none) else none)
set_option maxHeartbeats 8000000 in
theorem zhl (ax:Axs) (hx:zbx ax) (k:Nat) (h_:Ar 10) (i:Int) (b:Int) (v:Ar 10) (H:zgh k h_ i b=some v):Pure Tryz.prog (EE ax) [] 115 [.agg (h_.l.map (T.int .i64)),.int .i64 i,.int .i64 b] (.agg (v.l.map (T.int .i64))):=by
 rw [zgh] at H;refine en [.cell 6 39] 24 [0,1,2] (hx.no _ (by decide)) (fn115 ax) ?_;intro h hh;repeat apply TW.seq
 refine rk [1,2,3,6] [] hh ?_;clear hh h;intro h hh;obtain ⟨g1,H⟩:=isg H;obtain ⟨g2,H⟩:=isg H;obtain ⟨rBit,e3,H⟩:=zad H;obtain ⟨rvalue,e4,H⟩:=zad H;repeat apply TW.seq
 refine dk 13 [3,6] [.int .i64 rBit,.int .i64 rvalue] [] [] (f3 hh (arIx h_ g2) (ymq (k:=.i64) h_ (IntKind.i64.wrap ((gx h_.l (IntKind.i64.wrap (i / 16)))+(IntKind.i64.wrap ((IntKind.i64.wrap (b - rBit))*rvalue)))) g2)) ?_ trivial ?_
 ·exact ⟨(zb1 ax hx k h_ i rBit e3 ).call _,(zn6 ax hx k i rvalue e4 ).call _,trivial⟩
 clear hh h;intro h hh;repeat apply TW.seq
 refine rk [6] [] hh ?_;clear hh h;intro h hh;cases H;exact rtc hh
def zdr (k:Nat) (m_:Pat):Nat→Int→(Ar 10)→Option (Ar 10)
 |0,_,_=>none
 |m+1,i,x=>(if i<160 then ((zd6 k m_.mask i).bind fun rBit=>(if rBit=1 then ((zd6 k m_.bits i).bind fun rBit2=>((zgh k x i rBit2).bind fun rset=>zdr k m_ m (IntKind.i64.wrap (i+1)) rset)) else zdr k m_ m (IntKind.i64.wrap (i+1)) x)) else some x)
def zj8 (k:Nat) (m_:Pat) (h_:Ar 10):Option (Ar 10):=((zdr k m_ k 0 h_:Option (Ar 10)).bind fun s_=>some s_)
set_option maxHeartbeats 8000000 in
theorem zxs (ax:Axs) (hx:zbx ax) (k:Nat) (m_:Pat) (h_:Ar 10) (v:Ar 10) (H:zj8 k m_ h_=some v):Pure Tryz.prog (EE ax) [] 61 [ePat m_,.agg (h_.l.map (T.int .i64))] (.agg (v.l.map (T.int .i64))):=by
 rw [zj8] at H;refine en [.cell 4 39] 23 [0,1] (hx.no _ (by decide)) (fn61 ax) ?_;intro h hh;repeat apply TW.seq
 refine rk [2,3,4] [] hh ?_;clear hh h;intro h hh;repeat apply TW.seq
 refine rk [2,3,4,5] [] hh ?_;clear hh h;intro h hh;obtain ⟨s_,H1,H⟩:=zad H;repeat apply TW.seq
 refine cu [3,4] 3 (fun h bs=>(h 3=.ptr 1 0 10∧h 4=.ptr 2 0 10)∧bs=[.cells true 20 (m_.mask.l.map (T.int .i64)++(m_.bits.l.map (T.int .i64))),.cells true 10 (s_.l.map (T.int .i64)),.cells true 10 ((zA 10).l.map (T.int .i64))]) ?_ ?_
 ·skip;repeat apply TW.seq
  apply TW.block;repeat apply TW.seq
  refine TW.loopT [2,3,4,5] (fun m h bs=>∃ (i:Int) (x:Ar 10),zdr k m_ m i x=some s_∧(h 2=.ptr 0 0 20∧h 3=.ptr 1 0 10∧h 4=.ptr 2 0 10∧h 5=.int .i64 i)∧bs=[.cells true 20 (m_.mask.l.map (T.int .i64)++(m_.bits.l.map (T.int .i64))),.cells true 10 (x.l.map (T.int .i64)),.cells true 10 ((zA 10).l.map (T.int .i64))]) ?_ k _ _ ?_;rotate_left
  ·exact ⟨0,h_,H1,kq hh,rfl⟩
  clear hh h H1;rintro m h bs ⟨i,x,H1,hh,rfl⟩;rcases m with _|m
  ·rw [zdr] at H1;cases H1
  rw [zdr] at H1;repeat apply TW.seq
  refine rk [2,3,4,5,7] [] hh ?_;clear hh h;intro h hh;rcases isp H1 with ⟨c1,H1⟩|⟨c1,H1⟩;rotate_left
  ·skip;repeat apply TW.seq
   refine cf (f2 hh (decide_eq_false c1)) ?_;refine xk ?_;cases H1;exact ce hh ⟨kq hh,rfl⟩
  repeat apply TW.seq
  refine ct (f2 hh (decide_eq_true c1)) ?_;repeat apply TW.seq
  refine sk ?_;repeat apply TW.seq
  apply TW.block;obtain ⟨rBit,e2,H1⟩:=zad H1;repeat apply TW.seq
  refine rkc [2,3,4,5,14] [] [(.int .i64 rBit,stL [.cells true 20 (m_.mask.l.map (T.int .i64)++(m_.bits.l.map (T.int .i64))),.cells true 10 (x.l.map (T.int .i64)),.cells true 10 ((zA 10).l.map (T.int .i64))])] hh ?_ ?_
  ·exact ⟨zaj.call ((zb1 ax hx k m_.mask i rBit e2 ).call _),trivial⟩
  clear hh h;intro h hh;rcases isp H1 with ⟨c3,H1⟩|⟨c3,H1⟩;rotate_left
  ·skip;repeat apply TW.seq
   refine cf (f2 hh (decide_eq_false c3)) ?_;repeat apply TW.seq
   refine sk ?_;repeat apply TW.seq
   refine rk [2,3,4,5] [] hh ?_;clear hh h;intro h hh;exact rd m hh ⟨(IntKind.i64.wrap (i+1)),x,H1,kq hh,rfl⟩
  repeat apply TW.seq
  refine ct (f2 hh (decide_eq_true c3)) ?_;obtain ⟨rBit2,e4,H1⟩:=zad H1;obtain ⟨rset,e5,H1⟩:=zad H1;repeat apply TW.seq
  refine dk 6 [2,3,4,5] [.int .i64 rBit2] [] [(.agg (rset.l.map (T.int .i64)),stL [.cells true 20 (m_.mask.l.map (T.int .i64)++(m_.bits.l.map (T.int .i64))),.cells true 10 (x.l.map (T.int .i64)),.cells true 10 ((zA 10).l.map (T.int .i64))])] hh ?_ ?_ ?_
  ·exact ⟨(zb1 ax hx k m_.bits i rBit2 e4 ).call _,trivial⟩
  ·exact ⟨zaj.call ((zhl ax hx k x i rBit2 rset e5 ).call _),trivial⟩
  clear hh h;intro h hh;repeat apply TW.seq
  refine rk [2,3,4,5] [] hh ?_;clear hh h;intro h hh;exact rd m hh ⟨(IntKind.i64.wrap (i+1)),rset,H1,kq hh,rfl⟩
 clear hh h;rintro h bs ⟨hh,rfl⟩;repeat apply TW.seq
 refine rk [4] [] hh ?_;clear hh h;intro h hh;cases H;exact rtc hh
end
section
open Go Go.RowKit
/-! bits of words -/
theorem zxd {a b:Nat} (ha:a<2 ^ 64) (hb:b<2 ^ 64) (i:Nat):(a - (a &&& b)).testBit i=(a.testBit i && !b.testBit i):=by
  rw [← znu 64 ha hb,Nat.testBit_and,show 2 ^ 64 - 1 - b=2 ^ 64 - (b+1) by omega,Nat.testBit_two_pow_sub_succ hb];by_cases hi:i<64
  · simp [hi]
  · have:a.testBit i=false:=Nat.testBit_lt_two_pow (Nat.lt_of_lt_of_le ha (Nat.pow_le_pow_right (by decide) (by omega)));simp [this]
theorem zq4 {a b:Nat} (ha:a<65536) (hb:b<65536) (h:∀ t,t<16→a.testBit t=b.testBit t):a=b:=by
  apply Nat.eq_of_testBit_eq;intro t;by_cases ht:t<16
  · exact h t ht
  · have e:65536≤2 ^ t:=Nat.pow_le_pow_right (n:=2) (by decide) (show 16≤t by omega);rw [Nat.testBit_lt_two_pow (Nat.lt_of_lt_of_le ha e),Nat.testBit_lt_two_pow (Nat.lt_of_lt_of_le hb e)]
theorem zu1 {t s:Nat}:(2 ^ t).testBit s=decide (t=s):=Nat.testBit_two_pow
theorem ydq {w t:Nat} (hw:w<65536) (ht:t<16) (h:w.testBit t=false):w+2 ^ t=w ||| 2 ^ t:=by
  have hp:2 ^ t<65536:=Nat.pow_lt_pow_right (by decide) ht;have ho:w ||| 2 ^ t<2 ^ 16:=Nat.or_lt_two_pow hw hp
  have e1:(w ||| 2 ^ t) &&& 2 ^ t=2 ^ t:=by
    apply Nat.eq_of_testBit_eq;intro s;rw [Nat.testBit_and,Nat.testBit_or];cases (2 ^ t).testBit s<;>simp
  have e2:(w ||| 2 ^ t) - ((w ||| 2 ^ t) &&& 2 ^ t)=w:=by
    apply Nat.eq_of_testBit_eq;intro s;rw [zxd (by omega) (by omega),Nat.testBit_or,zu1];by_cases hs:t=s
    · subst hs;simp [h]
    · simp [hs]
  have e3:2 ^ t≤w ||| 2 ^ t:=Nat.right_le_or
  omega
theorem yjf {w t:Nat} (hw:w<65536) (ht:t<16) (h:w.testBit t=true):2 ^ t≤w∧∀ s,(w - 2 ^ t).testBit s=(w.testBit s && !decide (t=s)):=by
  have hp:2 ^ t<65536:=Nat.pow_lt_pow_right (by decide) ht
  have e1:w &&& 2 ^ t=2 ^ t:=by
    apply Nat.eq_of_testBit_eq;intro s;rw [Nat.testBit_and,zu1];by_cases hs:t=s
    · subst hs;simp [h]
    · simp [hs]
  have h1:w &&& 2 ^ t≤w:=Nat.and_le_left;refine ⟨by omega,fun s=>?_⟩;have:=zxd (a:=w) (b:=2 ^ t) (by omega) (by omega) s;rw [e1,zu1] at this;exact this
/-! heads -/
def hw (h:Ar 10) (i:Nat):Nat:=(gx h.l (i:Int)).toNat
def hbit (h:Ar 10) (i:Nat):Bool:=(hw h (i / 16)).testBit (15 - i % 16)
theorem zbh {h:Ar 10} (hr:zab h=true) {i:Nat} (hi:i<10):gx h.l (i:Int)=(hw h i:Int)∧hw h i<65536:=by
  obtain ⟨n,h1,h2⟩:=zxw hr hi;unfold hw;rw [h1];exact ⟨by simp,by simpa using h2⟩
theorem z13 (j t:Nat) (hj:j<10) (ht:t<16):(16*j+(15 - t)) / 16=j∧15 - (16*j+(15 - t)) % 16=t∧16*j+(15 - t)<160:=by omega
theorem zhr (h:Ar 10) {j t:Nat} (hj:j<10) (ht:t<16):hbit h (16*j+(15 - t))=(hw h j).testBit t:=by
  obtain ⟨a,b,_⟩:=z13 j t hj ht;unfold hbit;rw [a,b]
theorem ymp {n:Nat} {a b:Ar n} (h:∀ j:Nat,j<n→gx a.l (j:Int)=gx b.l (j:Int)):a=b:=by
  apply Ar.ext';apply List.ext_getElem (by rw [a.h,b.h]);intro i h1 h2;have:=h i (by rw [← a.h];exact h1)
  rwa [zea h1,zea h2] at this
theorem zrm {a b:Ar 10} (ha:zab a=true) (hb:zab b=true) (h:∀ i,i<160→hbit a i=hbit b i):a=b:=by
  apply ymp;intro j hj;obtain ⟨a1,a2⟩:=zbh ha hj;obtain ⟨b1,b2⟩:=zbh hb hj;rw [a1,b1,zq4 a2 b2 fun t ht=>by rw [← zhr a hj ht,← zhr b hj ht];exact h _ (z13 j t hj ht).2.2]
theorem zjh {h:Ar 10} (hh:∀ j:Nat,j<10→∃ n:Nat,gx h.l (j:Int)=(n:Int)∧n<65536):zab h=true:=by
  unfold zab;rw [zt7];intro j hj;have hj':j<10:=by rw [← h.h];exact hj
  obtain ⟨n,h1,h2⟩:=hh j hj';rw [zea hj] at h1;rw [h1];exact decide_eq_true (by omega)
/-! one bit -/
theorem zux {k i:Nat} (hi:i<160) (hk:16<k):ziq k (i:Int)=some ((2 ^ (15 - i % 16):Nat):Int):=by
  have key:∀ m kk,kk≤i % 16→i % 16 - kk<m→zeq k (i:Int) m ((2 ^ (15 - kk):Nat):Int) (kk:Int)=some ((2 ^ (15 - i % 16):Nat):Int):=by
    intro m
    induction m with
    |zero=>intro kk h1 h2;omega
    |succ m ih =>
      intro kk h1 h2;rw [zeq,if_pos ⟨by omega,by decide⟩];by_cases c:kk<i % 16
      · have hp:2 ^ (15 - kk)=2 ^ (15 - (kk+1))*2:=by rw [← Nat.pow_succ];congr 1;omega
        have hb:2 ^ (15 - kk)≤2 ^ 15:=Nat.pow_le_pow_right (by decide) (by omega);rw [if_pos (by omega),if_pos ⟨by omega,by decide⟩,zbm kk (by omega)];have e:IntKind.i64.wrap (((2 ^ (15 - kk):Nat):Int) / 2)=((2 ^ (15 - (kk+1)):Nat):Int):=by rw [wr64 (by omega)];omega
        rw [e];exact ih (kk+1) (by omega) (by omega)
      · rw [if_neg (by omega),show kk=i % 16 by omega]
  unfold ziq;have:=key k 0 (Nat.zero_le _) (by omega);rw [show ((2 ^ (15 - 0):Nat):Int)=32768 by decide] at this;rw [show (0:Int)=((0:Nat):Int) from rfl,this];rfl
theorem zw7 {i:Nat} (hi:i<160):IntKind.i64.wrap ((i:Int) / 16)=((i / 16:Nat):Int):=by rw [wr64 (by omega)];omega
theorem zhb {k i:Nat} {h:Ar 10} (hr:zab h=true) (hi:i<160) (hk:16<k):zd6 k h (i:Int)=some ((hbit h i).toNat:Int):=by
  unfold zd6;obtain ⟨a1,a2⟩:=zbh hr (i:=i / 16) (by omega);rw [if_pos ⟨by omega,by decide⟩,zw7 hi,if_pos ⟨by omega,by omega⟩,zux hi hk,Option.bind_some,a1];have hp:0<2 ^ (15 - i % 16):=Nat.two_pow_pos _;rw [if_pos ⟨by omega,by omega⟩]
  have e:IntKind.i64.wrap ((hw h (i / 16):Int) / ((2 ^ (15 - i % 16):Nat):Int))=((hw h (i / 16) / 2 ^ (15 - i % 16):Nat):Int):=by
    have:hw h (i / 16) / 2 ^ (15 - i % 16)≤hw h (i / 16):=Nat.div_le_self _ _;rw [← Int.natCast_ediv];generalize hw h (i / 16) / 2 ^ (15 - i % 16)=q at *;rw [wr64 (by omega)]
  rw [e];unfold hbit;rw [Nat.testBit_eq_decide_div_mod_eq];generalize hw h (i / 16) / 2 ^ (15 - i % 16)=q at *;rw [if_pos ⟨by omega,by decide⟩];congr 1;by_cases c:q % 2=1
  · rw [decide_eq_true c];simp only [Bool.toNat_true];omega
  · rw [decide_eq_false c];simp only [Bool.toNat_false];omega
/-! matching -/
def zaq (p:Pat) (h:Ar 10):Bool:=(List.range 160).all fun i=>!hbit p.mask i || (hbit p.bits i == hbit h i)
theorem zar {p:Pat} {h:Ar 10}:zaq p h=true↔∀ i,i<160→hbit p.mask i=true→hbit p.bits i=hbit h i:=by
  unfold zaq;rw [List.all_eq_true];constructor
  · intro hh i hi hm;have:=hh i (List.mem_range.2 hi);rw [hm] at this;simpa using this
  · intro hh i hi;have:=hh i (List.mem_range.1 hi)
    cases hm:hbit p.mask i with
    |false=>rfl
    |true=>simpa using this hm
theorem zmi {b h m:Nat} (hb:b<65536) (hh:h<65536) (hm:m<65536):(b ^^^ h) &&& m=0↔∀ t,t<16→m.testBit t=true→b.testBit t=h.testBit t:=by
  constructor
  · intro h0 t ht h1;have:=congrArg (fun x=>Nat.testBit x t) h0;simp only [Nat.testBit_and,Nat.testBit_xor,Nat.zero_testBit,h1,Bool.and_true] at this;revert this;cases b.testBit t<;>cases h.testBit t<;>simp
  · intro h0;apply zq4 (Nat.lt_of_le_of_lt Nat.and_le_right hm) (by decide);intro t ht;simp only [Nat.testBit_and,Nat.testBit_xor,Nat.zero_testBit]
    cases h1:m.testBit t with
    |false=>simp
    |true=>rw [h0 t ht h1];simp
theorem zai {p:Pat}:zag p=true↔zab p.mask=true∧zab p.bits=true∧∀ i,i<160→hbit p.bits i=true→hbit p.mask i=true:=by
  unfold zag
  simp only [Bool.and_eq_true];refine and_congr_right fun hm=>and_congr_right fun hb=>?_;unfold zw8;rw [List.all_eq_true]
  have key:∀ j:Nat,j<10→(decide (iAnd .i64 (gx p.bits.l (j:Int)) (gx p.mask.l (j:Int))=gx p.bits.l (j:Int))=true↔∀ t,t<16→(hw p.bits j).testBit t=true→(hw p.mask j).testBit t=true):=by
    intro j hj;obtain ⟨a1,a2⟩:=zbh hb hj;obtain ⟨b1,b2⟩:=zbh hm hj;rw [a1,b1,zrl (by omega) (by omega),decide_eq_true_eq];constructor
    · intro h t ht h1;have h':hw p.bits j &&& hw p.mask j=hw p.bits j:=by omega
      rw [← h',Nat.testBit_and] at h1;simp only [Bool.and_eq_true] at h1;exact h1.2
    · intro h;congr 1;apply zq4 (Nat.lt_of_le_of_lt Nat.and_le_left a2) a2;intro t ht;rw [Nat.testBit_and]
      cases h1:(hw p.bits j).testBit t with
      |false=>rfl
      |true=>rw [h t ht h1];rfl
  constructor
  · intro h i hi h1;have:=(key (i / 16) (by omega)).1 (h _ (List.mem_range.2 (by omega))) (15 - i % 16) (by omega);exact this h1
  · intro h j hj;have hj':=List.mem_range.1 hj
    exact (key j hj').2 fun t ht h1=>by
      rw [← zhr p.mask hj' ht];exact h _ (z13 j t hj' ht).2.2 (by rw [zhr p.bits hj' ht];exact h1)
theorem z8i {k:Nat} {p:Pat} {h:Ar 10} (hp:zag p=true) (hh:zab h=true) (hk:10<k):zi0 k p h=some (zaq p h):=by
  obtain ⟨pm,pb,_⟩:=zai.1 hp;unfold zi0
  rw [zh2 (L:=zdb k p h) 10 false (fun j=>decide ((hw p.bits j ^^^ hw h j) &&& hw p.mask j=0)) (by decide) (fun m j hj=>by
    obtain ⟨a1,a2⟩:=zbh pb hj;obtain ⟨b1,b2⟩:=zbh pm hj;obtain ⟨c1,c2⟩:=zbh hh hj;have hx:hw p.bits j ^^^ hw h j<2 ^ 16:=Nat.xor_lt_two_pow a2 c2;rw [zdb,if_pos (lt10 hj),if_pos ⟨by omega,lt10 hj⟩,a1,b1,c1,z52 (by omega) (by omega),zrl (by omega) (by omega)];by_cases c:(hw p.bits j ^^^ hw h j) &&& hw p.mask j=0
    · rw [if_neg (by omega),if_pos (decide_eq_true c)]
    · rw [if_pos (by omega),if_neg (by rw [decide_eq_true_eq];exact c)]) (fun m=>by rw [zdb];exact if_neg (by decide)) hk,Option.bind_some]
  have e:(List.range 10).all (fun j=>decide ((hw p.bits j ^^^ hw h j) &&& hw p.mask j=0))=zaq p h:=by
    rw [Bool.eq_iff_iff,List.all_eq_true,zar];constructor
    · intro hall i hi hm;have:=of_decide_eq_true (hall (i / 16) (List.mem_range.2 (by omega)));exact (zmi (zbh pb (by omega)).2 (zbh hh (by omega)).2 (zbh pm (by omega)).2).1 this (15 - i % 16) (by omega) hm
    · intro hall j hj;have hj':=List.mem_range.1 hj;refine decide_eq_true ((zmi (zbh pb hj').2 (zbh hh hj').2 (zbh pm hj').2).2 fun t ht h1=>?_);rw [← zhr p.bits hj' ht,← zhr h hj' ht];exact hall _ (z13 j t hj' ht).2.2 (by rw [zhr p.mask hj' ht];exact h1)
  rw [e];cases zaq p h<;>rfl
theorem yex {a:Nat} (h:a<160):(a:Int)<160:=by omega
theorem z63 {a b:Bool}:((a.toNat:Int)≠(b.toNat:Int))↔a≠b:=by cases a<;>cases b<;>decide
theorem zk9 {a:Bool}:((a.toNat:Int)=1)↔a=true:=by cases a<;>decide
/-! rewriting -/
def zuc (m:Pat) (h x:Ar 10):Prop:=zab x=true∧∀ i,i<160→hbit x i=if hbit m.mask i=true then hbit m.bits i else hbit h i
theorem zuc.uniq {m:Pat} {h x y:Ar 10} (a:zuc m h x) (b:zuc m h y):x=y:=zrm a.1 b.1 fun i hi=>by rw [a.2 i hi,b.2 i hi]
theorem zhs {n:Nat} {a:Ar n} {i:Nat} (v:Int) (hi:i<n):gx (a.set (i:Int) v).l (i:Int)=v:=by
  show (a.l.set i v).getD i default=v;rw [List.getD_eq_getElem?_getD,List.getElem?_set_self (by rw [a.h];exact hi)];rfl
theorem zki {n:Nat} {a:Ar n} {i j:Nat} (v:Int) (hj:j<n) (h:i≠j):gx (a.set (i:Int) v).l (j:Int)=gx a.l (j:Int):=by
  show (a.l.set i v).getD j default=a.l.getD j default;rw [List.getD_eq_getElem?_getD,List.getD_eq_getElem?_getD,List.getElem?_set_ne h]
theorem zmn {k i:Nat} {h:Ar 10} {b:Bool} (hr:zab h=true) (hi:i<160) (hk:16<k):∃ x,zgh k h (i:Int) (b.toNat:Int)=some x∧zab x=true∧∀ j,j<160→hbit x j=if j=i then b else hbit h j:=by
  unfold zgh;obtain ⟨a1,a2⟩:=zbh hr (i:=i / 16) (by omega);rw [if_pos ⟨by omega,by decide⟩,zw7 hi,if_pos ⟨by omega,by omega⟩,zhb hr hi hk,Option.bind_some,zux hi hk,Option.bind_some,a1];have ht:15 - i % 16<16:=by omega
  have hp:2 ^ (15 - i % 16)<65536:=Nat.pow_lt_pow_right (by decide) ht;have hpp:0<2 ^ (15 - i % 16):=Nat.two_pow_pos _;have hi10:i / 16<10:=by omega
  -- the new word
  have hnew:∃ w:Nat,IntKind.i64.wrap ((hw h (i / 16):Int)+IntKind.i64.wrap (IntKind.i64.wrap ((b.toNat:Int) - ((hbit h i).toNat:Int))*((2 ^ (15 - i % 16):Nat):Int)))=(w:Int)∧w<65536∧∀ s,w.testBit s=if s=15 - i % 16 then b else (hw h (i / 16)).testBit s:=by
    cases hb:hbit h i with
    |false =>
      have hb':(hw h (i / 16)).testBit (15 - i % 16)=false:=hb
      cases b with
      |false =>
        refine ⟨hw h (i / 16),?_,a2,fun s=>?_⟩
        · simp only [Bool.toNat_false,Int.natCast_zero,Int.sub_self];rw [wr64 (n:=0) (by omega),Int.zero_mul,wr64 (n:=0) (by omega),Int.add_zero,wr64 (by omega)]
        · by_cases hs:s=15 - i % 16
          · rw [if_pos hs,hs,hb']
          · rw [if_neg hs]
      |true =>
        refine ⟨hw h (i / 16)+2 ^ (15 - i % 16),?_,?_,fun s=>?_⟩
        · simp only [Bool.toNat_true,Bool.toNat_false];rw [wr64 (n:=((1:Nat):Int) - ((0:Nat):Int)) (by omega),show ((1:Nat):Int) - ((0:Nat):Int)=1 by omega,Int.one_mul,wr64 (n:=((2 ^ (15 - i % 16):Nat):Int)) (by omega),wr64 (by omega)];omega
        · rw [ydq a2 ht hb'];exact Nat.or_lt_two_pow (n:=16) a2 hp
        · rw [ydq a2 ht hb',Nat.testBit_or,zu1];by_cases hs:s=15 - i % 16
          · rw [if_pos hs];simp [hs]
          · rw [if_neg hs];simp [Ne.symm hs]
    |true =>
      have hb':(hw h (i / 16)).testBit (15 - i % 16)=true:=hb;obtain ⟨g1,g2⟩:=yjf a2 ht hb'
      cases b with
      |true =>
        refine ⟨hw h (i / 16),?_,a2,fun s=>?_⟩
        · simp only [Int.sub_self];rw [wr64 (n:=0) (by omega),Int.zero_mul,wr64 (n:=0) (by omega),Int.add_zero,wr64 (by omega)]
        · by_cases hs:s=15 - i % 16
          · rw [if_pos hs,hs,hb']
          · rw [if_neg hs]
      |false =>
        refine ⟨hw h (i / 16) - 2 ^ (15 - i % 16),?_,by omega,fun s=>?_⟩
        · simp only [Bool.toNat_true,Bool.toNat_false];rw [wr64 (n:=((0:Nat):Int) - ((1:Nat):Int)) (by omega),show ((0:Nat):Int) - ((1:Nat):Int)=-1 by omega,wr64 (n:=-1*((2 ^ (15 - i % 16):Nat):Int)) (by omega),wr64 (by omega)];omega
        · rw [g2];by_cases hs:s=15 - i % 16
          · rw [if_pos hs];simp [hs]
          · rw [if_neg hs];simp [Ne.symm hs]
  obtain ⟨w,e1,e2,e3⟩:=hnew;refine ⟨_,rfl,?_,?_⟩
  · rw [e1];refine zjh fun j hj=>?_;by_cases hij:i / 16=j
    · subst hij;exact ⟨w,zhs _ hj,e2⟩
    · rw [zki _ hj hij];exact ⟨_,(zbh hr hj).1,(zbh hr hj).2⟩
  · intro j hj;rw [e1];unfold hbit;have hj10:j / 16<10:=by omega
    by_cases hij:i / 16=j / 16
    · have:hw (h.set ((i / 16:Nat):Int) (w:Int)) (j / 16)=w:=by
        unfold hw;rw [← hij,zhs _ hi10];rfl
      rw [this,e3,← hij];by_cases hm:j=i
      · subst hm;rw [if_pos rfl,if_pos rfl]
      · rw [if_neg hm,if_neg (by omega)]
    · have:hw (h.set ((i / 16:Nat):Int) (w:Int)) (j / 16)=hw h (j / 16):=by
        unfold hw;rw [zki _ hj10 hij]
      rw [this,if_neg (fun hm=>hij (by rw [hm]))]
theorem yan {k:Nat} {m:Pat} {h:Ar 10} (hp:zag m=true) (hh:zab h=true) (hk:160<k):∃ x,zj8 k m h=some x∧zuc m h x:=by
  obtain ⟨pm,pb,pw⟩:=zai.1 hp
  have key:∀ fu i (x:Ar 10),i≤160→160 - i<fu→zab x=true→(∀ j,j<160→hbit x j=if j<i∧hbit m.mask j=true then hbit m.bits j else hbit h j)→∃ y,zdr k m fu (i:Int) x=some y∧zuc m h y:=by
    intro fu
    induction fu with
    |zero=>intro i x h1 h2;omega
    |succ fu ih =>
      intro i x h1 h2 h3 h4;rw [zdr];by_cases c:i<160
      · rw [if_pos (yex c),zhb pm c (by omega),Option.bind_some,zhb pb c (by omega),zbm i (by omega)];by_cases d:hbit m.mask i=true
        · rw [if_pos (zk9.2 d),Option.bind_some];obtain ⟨y,s1,s2,s3⟩:=zmn (b:=hbit m.bits i) h3 c (show 16<k by omega);rw [s1,Option.bind_some];refine ih (i+1) y (by omega) (by omega) s2 fun j hj=>?_;rw [s3 j hj];by_cases hji:j=i
          · subst hji;rw [if_pos rfl,if_pos ⟨by omega,d⟩]
          · rw [if_neg hji,h4 j hj];by_cases hq:j<i∧hbit m.mask j=true
            · rw [if_pos hq,if_pos ⟨by omega,hq.2⟩]
            · rw [if_neg hq,if_neg (fun hh2=>hq ⟨by omega,hh2.2⟩)]
        · rw [if_neg (fun hq=>d (zk9.1 hq))];refine ih (i+1) x (by omega) (by omega) h3 fun j hj=>?_;rw [h4 j hj];by_cases hji:j=i
          · subst hji;rw [if_neg (fun hq=>d hq.2),if_neg (fun hq=>d hq.2)]
          · by_cases hq:j<i∧hbit m.mask j=true
            · rw [if_pos hq,if_pos ⟨by omega,hq.2⟩]
            · rw [if_neg hq,if_neg (fun hh2=>hq ⟨by omega,hh2.2⟩)]
      · obtain rfl:i=160:=by omega
        rw [if_neg (by decide)];refine ⟨x,rfl,h3,fun j hj=>?_⟩;rw [h4 j hj];by_cases hq:hbit m.mask j=true
        · rw [if_pos ⟨hj,hq⟩,if_pos hq]
        · rw [if_neg (fun hh2=>hq hh2.2),if_neg hq]
  obtain ⟨y,h1,h2⟩:=key k 0 h (by omega) (by omega) hh fun j hj=>by rw [if_neg (fun hq=>Nat.not_lt_zero _ hq.1)]
  refine ⟨y,?_,h2⟩;unfold zj8;rw [show (0:Int)=((0:Nat):Int) from rfl,h1];rfl
end
section
open Go Go.RowKit
section
variable {GL:List (Nat×List Value)} {A A' A2:Nat→Prop} {β β' β2:Bx} {S S' S2:TS} {s s' s2:CS} {P:Program} {Γ:Env} {N:Nat} {h h' h2:Nat→T} {Q R:Exit→(Nat→T)→TS→Prop}
def KeyT (i:It) (GL:List (Nat×List Value)) (caps:List T) (k:List Nat):Prop :=
  ∀ (A:Nat→Prop) (β:Bx) (S:TS) (s:CS) (vs:List Value),TRel GL A β S s→VL A β (zaa s.obj) caps vs→∃ s',i.key vs s=some (k,s')∧TRel GL A β S s'∧Stp A β s A β s'∧s'.obj=s.obj
def yef:(Nat→T)→List Tmp→List T→Nat→T
  |h,p :: ps,t :: ts=>yef (tupd h p t) ps ts
  |h,_,_=>h
theorem z4x {g:Nat→Fam}:∀ {ps:List Tmp} {ts:List T} {vs:List Value} {h:Nat→T} {fr:Fr},(∀ p,p∈ps→p<N)→VL A β g ts vs→FrOk A β g N h fr→FrOk A β g N (yef h ps ts) (zoe fr ps vs)
  |[],ts,vs,h,fr,_,_,hF=>hF
  |p :: ps,_,_,h,fr,hp,.nil,hF=>hF
  |p :: ps,_,_,h,fr,hp,.cons h1 h2,hF=>z4x (ps:=ps) (fun q hq=>hp q (.tail _ hq)) h2 (hF.put (d:=some p) (fun t ht=>by cases ht;exact hp p (.head _)) h1)
theorem zsg:∀ l:List Nat,zp7 l l=true
  |[]=>rfl
  |a :: l=>by simp only [zp7,Nat.beq_refl,zsg l,Bool.and_self]
def RQ (I:List (List T)→TS→Prop) (rest:List (List T)) (h:Nat→T) (Q:Exit→(Nat→T)→TS→Prop):Exit→(Nat→T)→TS→Prop:=fun e _ S'=>match e with
  |.normal=>I rest S'
  |.ret=>Q .ret h S'
  |.exit j=>Q (.exit j) h S'
  |_=>False
theorem yaa {i:It} {caps:List T} {k:List Nat} {ps:List Tmp} {a b:Code} (hk:KeyT i GL caps k) (hps:∀ p,p∈ps→p<N) (I:List (List T)→TS→Prop)
    (hstep:∀ x rest S,I (x :: rest) S→x.length=ps.length∧TW P Γ GL N a (yef h ps x) S fun e h1 S1=>e=.normal∧TW P Γ GL N b h1 S1 (RQ I rest h Q)) (hend:∀ S,I [] S→Q .normal h S) :
    ∀ (X:List (List T)) (xs:List (List Value)) (S:TS) (A:Nat→Prop) (β:Bx) (s:CS) (fr:Fr) (vcaps:List Value),X.length=xs.length→(∀ (j:Nat) (x:List T) (v:List Value),X[j]?=some x→xs[j]?=some v→∀ (A:Nat→Prop) (β:Bx) (g:Nat→Fam),VL A β g x v) →
      FrOk A β (zaa s.obj) N h fr→TRel GL A β S s→VL A β (zaa s.obj) caps vcaps→I X S →
      ∃ n e s2,ze6 (cm P Γ n) (i.key vcaps) k ps a b fr xs s=some (e,s2)∧∃ S2,Left GL A β s N fr s2 h S2∧Q e h S2:=by
  intro X
  induction X with
  |nil =>
    intro xs S A β s fr vcaps hlen hX hF hT hc hI
    cases xs with
    |cons _ _=>simp at hlen
    |nil=>exact ⟨0,.normal,s,rfl,S,Left.refl hF hT,hend S hI⟩
  |cons x X ih =>
    intro xs S A β s fr vcaps hlen hX hF hT hc hI
    cases xs with
    |nil=>simp at hlen
    |cons v xs =>
      obtain ⟨hl,hw⟩:=hstep x X S hI;have hv:=hX 0 x v rfl rfl;have hvl:v.length=ps.length:=by rw [← (hv A β (zaa s.obj)).len,hl]
      obtain ⟨e1,fr1,s1,⟨n1,ev1⟩,h1,S1,⟨A1,β1,f1,t1,p1⟩,rfl,hb⟩:=hw A β _ s (z4x hps (hv A β (zaa s.obj)) hF) hT;obtain ⟨e2,fr2,s2,⟨n2,ev2⟩,h2,S2,⟨A2,β2,f2,t2,p2⟩,hq⟩:=hb A1 β1 fr1 s1 f1 t1;have p12:=p1.trans hT.le p2;have fr12:FrOk A2 β2 (zaa s2.obj) N h fr:=hF.mono p12.sub (p12.old hT) p12.bx
      have fin:∀ e:Exit,(e=.ret∨∃ j,e=.exit j)→e2=e→∃ n e3 s3,ze6 (cm P Γ n) (i.key vcaps) k ps a b fr (v :: xs) s=some (e3,s3)∧∃ S3,Left GL A β s N fr s3 h S3∧Q e3 h S3:=by
        rintro e he rfl;refine ⟨max n1 n2,e2,s2,?_,S2,⟨A2,β2,fr12,t2,p12⟩,?_⟩
        · rw [ze6,zif hvl,zbi,zk6 (Nat.le_max_left n1 n2) ev1];simp only;rw [zk6 (Nat.le_max_right n1 n2) ev2];rcases he with rfl|⟨j,rfl⟩<;>rfl
        · rcases he with rfl|⟨j,rfl⟩<;>exact hq
      cases e2 with
      |ret=>exact fin _ (.inl rfl) rfl
      |exit j=>exact fin _ (.inr ⟨j,rfl⟩) rfl
      |normal =>
        obtain ⟨s3,k1,k2,k3,k4⟩:=hk A2 β2 S2 s2 vcaps t2 (p12.vl hT hc);have p13:=p12.trans hT.le k3;obtain ⟨n3,e4,s4,r1,S4,⟨A4,β4,f4,t4,p4⟩,q4⟩:=ih xs S2 A2 β2 s3 fr vcaps (by simpa using hlen) (fun j y w hy hw=>hX (j+1) y w (by simpa using hy) (by simpa using hw)) (by rw [k4];exact fr12) k2 (by rw [k4];exact p12.vl hT hc) hq;refine ⟨max (max n1 n2) n3,e4,s4,?_,S4,⟨A4,β4,f4,t4,p13.trans hT.le p4⟩,q4⟩;rw [ze6,zif hvl,zbi,zk6 (Nat.le_trans (Nat.le_max_left n1 n2) (Nat.le_max_left _ n3)) ev1];simp only;rw [zk6 (Nat.le_trans (Nat.le_max_right n1 n2) (Nat.le_max_left _ n3)) ev2];simp only;rw [k1];simp only;rw [zsg,zbi];exact zsr (fun c fr s r hr=>zk6 (Nat.le_max_right _ n3) hr) xs _ _ r1
      |goto _=>exact absurd hq fun x=>x
      |panic _=>exact absurd hq fun x=>x
      |outgrown=>exact absurd hq fun x=>x
theorem TW.range {i:It} {g:Operand} {gf:FuncId} {caps:List T} {k:List Nat} {ps:Array Tmp} {a b:Code} (X:List (List T)) (I:List (List T)→TS→Prop) (hg:zdj GL h g=.fn gf [] caps) (hit:Γ.it gf=some i) (hk:KeyT i GL caps k) (hps:∀ p,p∈ps.toList→p<N)
    (hlen:X.length=(i.xs k).length) (hX:∀ (j:Nat) (x:List T) (v:List Value),X[j]?=some x→(i.xs k)[j]?=some v→∀ (A:Nat→Prop) (β:Bx) (g:Nat→Fam),VL A β g x v)
    (h0:I X S) (hstep:∀ x rest S,I (x :: rest) S→x.length=ps.toList.length∧TW P Γ GL N a (yef h ps.toList x) S fun e h1 S1=>e=.normal∧TW P Γ GL N b h1 S1 (RQ I rest h Q)) (hend:∀ S,I [] S→Q .normal h S) :
    TW P Γ GL N (.rangeFunc g ps a b) h S Q:=fun A β fr s hF hT=>by
  have hv:=hF.eval hT g;rw [hg] at hv;generalize hgv:zfu fr g=v at hv
  cases hv with
  |fn hva hvc =>
    cases hva;obtain ⟨s1,k1,k2,k3,k4⟩:=hk A β S s _ hT hvc;obtain ⟨n,e,s2,r1,S2,l2,q2⟩:=yaa hk hps I hstep hend X (i.xs k) S A β s1 fr _ hlen hX (by rw [k4];exact hF) k2 (by rw [k4];exact hvc) h0;refine ⟨e,fr,s2,⟨n+1,?_⟩,h,S2,Left.trans (h':=h) (fr':=fr) hT.le k3 l2,q2⟩;rw [cm,hgv];unfold zqd;simp only [hit];rw [k1];simp only;rw [r1]
def RX (h:Nat→T) (Q:Exit→(Nat→T)→TS→Prop):Exit→(Nat→T)→TS→Prop:=fun e _ S'=>match e with
  |.ret=>Q .ret h S'
  |.exit j=>Q (.exit j) h S'
  |_=>False
theorem ykr {j:Nat}:RX h Q (.exit j) h' S=Q (.exit j) h S:=rfl
theorem zxz {n id:Nat} {ops:Array Oper} {dr:Bool} {fr fr':Fr} {e:Exit} (hc:cm P Γ n (.region id ops dr) fr s=some (e,fr',s')):e=.normal:=by
  cases n with
  |zero=>simp [cm] at hc
  |succ n =>
    have h' : (bif dr then match drawC P Γ (zdh P Γ n) ops.toList ops.toList fr s with
        |some (logs,fr,t)=>bif calm s.n ops.toList logs then some (Exit.normal,fr,t) else none
        |none=>none
      else match runC P Γ (zdh P Γ n) ops.toList ops.toList fr s with
        |some (fr,s)=>some (Exit.normal,fr,s)
        |none=>none)=some (e,fr',s'):=hc
    cases dr with
    |true =>
      simp only [cond_true] at h';split at h'
      · obtain ⟨_,h'⟩:=zdg h';simp only [Option.some.injEq,Prod.mk.injEq] at h';exact h'.1.symm
      · simp at h'
    |false =>
      simp only [cond_false] at h';split at h'
      · simp only [Option.some.injEq,Prod.mk.injEq] at h';exact h'.1.symm
      · simp at h'
theorem TW.rng0 {i:It} {g:Operand} {gf:FuncId} {caps:List T} {k:List Nat} {ps:Array Tmp} {a b:Code} (hg:zdj GL h g=.fn gf [] caps) (hit:Γ.it gf=some i) (hk:KeyT i GL caps k) (hx:i.xs k=[]) (hq:Q .normal h S) :
    TW P Γ GL N (.rangeFunc g ps a b) h S Q:=fun A β fr s hF hT=>by
  have hv:=hF.eval hT g;rw [hg] at hv;generalize hgv:zfu fr g=v at hv
  cases hv with
  |fn hva hvc =>
    cases hva;obtain ⟨s1,k1,k2,k3,k4⟩:=hk A β S s _ hT hvc;refine ⟨.normal,fr,s1,⟨1,?_⟩,h,S,⟨A,β,by rw [k4];exact hF,k2,k3⟩,hq⟩;rw [cm,hgv];unfold zqd;simp only [hit];rw [k1];simp only;rw [hx];rfl
theorem TW.rng1 {i:It} {g:Operand} {gf:FuncId} {caps:List T} {k:List Nat} {p:Tmp} {id:Nat} {ops:Array Oper} {dr:Bool} {b:Code} (x:T) {v:Value} {rest:List (List Value)} (hg:zdj GL h g=.fn gf [] caps) (hit:Γ.it gf=some i) (hk:KeyT i GL caps k) (hp:p<N) (hx:i.xs k=[v] :: rest) (hv:∀ (A:Nat→Prop) (β:Bx) (g:Nat→Fam),VT A β g x v)
    (hb:TW P Γ GL N (.seq (.region id ops dr) b) (tupd h p x) S (RX h Q)):TW P Γ GL N (.rangeFunc g #[p] (.region id ops dr) b) h S Q:=fun A β fr s hF hT=>by
  have hgt:=hF.eval hT g;rw [hg] at hgt;generalize hgv:zfu fr g=gv at hgt
  cases hgt with
  |fn hva hvc =>
    cases hva;obtain ⟨s1,k1,k2,k3,k4⟩:=hk A β S s _ hT hvc;have hF1:FrOk A β (zaa s1.obj) N h fr:=by rw [k4];exact hF
    obtain ⟨e,fr2,s2,⟨n,ev⟩,h2,S2,⟨A2,β2,f2,t2,p2⟩,hq⟩:=hb A β (fr.put p v) s1 (hF1.put (d:=some p) (fun t ht=>by cases ht;exact hp) (hv A β _)) k2;have fO:FrOk A2 β2 (zaa s2.obj) N h fr:=hF1.mono p2.sub (p2.old k2) p2.bx;have l2:Left GL A β s N fr s2 h S2:=Left.trans (h':=h) (fr':=fr) hT.le k3 ⟨A2,β2,fO,t2,p2⟩
    cases n with
    |zero=>simp [cm] at ev
    |succ n =>
      simp only [cm] at ev
      have fin:∀ e:Exit,(e=.ret∨∃ j,e=.exit j)→(∃ fr1 s3,cm P Γ n (.region id ops dr) (fr.put p v) s1=some (.normal,fr1,s3)∧cm P Γ n b fr1 s3=some (e,fr2,s2))→Q e h S2→W P Γ (.rangeFunc g #[p] (.region id ops dr) b) fr s fun e fr' s'=>∃ h' S',Left GL A β s N fr' s' h' S'∧Q e h' S':=by
        rintro e he ⟨fr1,s3,e1,e2⟩ hQ
        have hr:∀ key,ze6 (cm P Γ n) key k [p] (.region id ops dr) b fr ([v] :: rest) s1=some (e,s2):=by
          intro key;rw [ze6,show Nat.beq [v].length [p].length=true from rfl,zbi,show zoe fr [p] [v]=fr.put p v from rfl,e1];simp only;rw [e2];rcases he with rfl|⟨j,rfl⟩<;>rfl
        refine ⟨e,fr,s2,⟨n+1,?_⟩,h,S2,l2,hQ⟩;rw [cm,hgv];unfold zqd;simp only [hit];rw [k1];simp only;rw [hx]
        first
          |rw [hr]
          |(rw [show (#[p]:Array Tmp).toList=[p] from rfl,hr])
      have step:∃ fr1 s3,cm P Γ n (.region id ops dr) (fr.put p v) s1=some (.normal,fr1,s3)∧cm P Γ n b fr1 s3=some (e,fr2,s2):=by
        cases hr:cm P Γ n (.region id ops dr) (fr.put p v) s1 with
        |none=>rw [hr] at ev;simp at ev
        |some q =>
          obtain ⟨e1,fr1,s3⟩:=q;have:=zxz hr;subst this;rw [hr] at ev;exact ⟨fr1,s3,rfl,ev⟩
      cases e with
      |ret=>exact fin _ (.inl rfl) step hq
      |exit j=>exact fin _ (.inr ⟨j,rfl⟩) step hq
      |normal=>exact absurd hq fun x=>x
      |goto _=>exact absurd hq fun x=>x
      |panic _=>exact absurd hq fun x=>x
      |outgrown=>exact absurd hq fun x=>x
end
end
section
open Go Go.RowKit
set_option maxRecDepth 100000
theorem ya1 (ax:Axs) (hx:NoAx ax) (q p:Pat):Pure Tryz.prog (EE ax) [] 119 [ePat q,ePat p] (.fn 140 [] [.cp (q.mask.l.map (T.int .i64)++(q.bits.l.map (T.int .i64))),.cp (p.mask.l.map (T.int .i64)++(p.bits.l.map (T.int .i64)))]):=by
  refine en [.tmp 4] 6 [0,1] (hx.no _ (by decide)) (fn119 ax) ?_ (hv:=by simp only [T.ids,T.idsL,zat,zfy,Bool.and_self]);intro h hh;repeat apply TW.seq
  refine rk [2,3] [] hh ?_;clear hh h;intro h hh;refine zk 2 0 20 true (q.mask.l.map (T.int .i64)++(q.bits.l.map (T.int .i64))) [2,3] hh ?_;clear hh h;intro h hh;refine zk 3 1 20 true (p.mask.l.map (T.int .i64)++(p.bits.l.map (T.int .i64))) [2,3] hh ?_;clear hh h;intro h hh;repeat apply TW.seq
  refine rk [4] [] hh ?_;clear hh h;intro h hh;exact rt hh
def zij (a:Ar 10):List Nat:=a.l.map Int.toNat
def natM (a:Ar 10):Prop:=∀ x,x∈a.l→0≤x∧x<9223372036854775808
instance (a:Ar 10):Decidable (natM a):=by unfold natM;infer_instance
def zuo:Nat→Nat→List Nat
  |0,_=>[]
  |f+1,w=>if w=0 then [] else (15 - Nat.log2 w) :: zuo f (w - 2 ^ Nat.log2 w)
def zq0:Nat→List Nat→List Nat→List Nat
  |i,a :: l,b :: m=>(zuo 17 ((a - (a &&& b)) % 65536)).map (fun x=>16*i+x)++zq0 (i+1) l m
  |_,_,_=>[]
def z7v (q p:Ar 10):List Nat:=zq0 0 (zij q) (zij p)
theorem z66:∀ (f w:Nat),zt6 f w=zuo f w
  |0,w=>by unfold zt6 zuo;rfl
  |f+1,w=>by
    rw [zt6,zuo,zb2,← z66 f];by_cases h:w=0
    · rw [if_pos h,if_pos (by rw [h];rfl)]
    · rw [if_neg h,if_neg (by intro q;exact h (Nat.eq_of_beq_eq_true q))];rfl
theorem z45:∀ (i:Nat) (l m:List Nat),znn i l m=zq0 i l m
  |i,a :: l,b :: m=>by
    rw [znn,zq0,← z45,z66];rfl
  |_,[],m=>by cases m<;>(unfold znn zq0;rfl)
  |_,_ :: _,[]=>by unfold znn zq0;rfl
theorem zvz {A:Nat→Prop} {β:Bx} {g:Nat→Fam}:∀ (l:List Int) (r:List T) (cs:List Value),(∀ x,x∈l→0≤x∧x<9223372036854775808)→VL A β g (l.map (T.int .i64)++r) cs→zhg l.length cs=some (l.map Int.toNat)
  |[],r,cs,_,_=>by unfold zhg;rfl
  |x :: l,r,_,h,.cons h1 h2=>by
    cases h1;have hx:=h x (.head _);have ih:=zvz l r _ (fun y hy=>h y (.tail _ hy)) h2;obtain ⟨n,rfl⟩:=Int.eq_ofNat_of_zero_le hx.1
    have e:i64N (.int .i64 (n:Int))=some n:=by
      unfold i64N;have h2:n<9223372036854775808:=by omega
      show sel (and (Nat.beq (ikN .i64) (ikN .i64)) (Nat.blt n 9223372036854775808)) (some n) none=some n;rw [Nat.beq_refl,zac.2 h2];rfl
    rw [List.length_cons,zhg,e,ih];rfl
theorem z7x:∀ {n:Nat} {l l2:List Value} {x:List Nat},zhg n l=some x→zhg n (l++l2)=some x:=by
  intro n
  induction n with
  |zero=>intro l l2 x hx;unfold zhg at hx ⊢;exact hx
  |succ n ih =>
    intro l l2 x hx
    cases l with
    |nil=>simp [zhg] at hx
    |cons y l =>
      rw [zhg] at hx;rw [List.cons_append,zhg]
      cases h1:i64N y with
      |none=>rw [h1] at hx;simp at hx
      |some m =>
        rw [h1] at hx
        cases h2:zhg n l with
        |none=>rw [h2] at hx;simp at hx
        |some q=>rw [h2] at hx;rw [ih (l2:=l2) h2];exact hx
theorem zvy {GL:List (Nat×List Value)} {A:Nat→Prop} {β:Bx} {S:TS} {s:CS} {a:Ar 10} {r:List T} {v:Value} (ha:natM a) (hT:TRel GL A β S s) (hv:VT A β (zaa s.obj) (.cp (a.l.map (T.int .i64)++r)) v) :
    ∃ s',zjw 10 s v=some (zij a,s')∧TRel GL A β S s'∧Stp A β s A β s'∧s'.obj=s.obj:=by
  cases hv with
  |@cp l f u off cs cs0 hA hr hl hc =>
    have e1:s.readRow (mkA f u off)=some (cs0,{ s with rd:=ins s.lim s.rd f }):=by
      unfold CS.readRow;have:zbp (zaa s.obj (mkA f u off).block).rows (Addr.ver (mkA f u off))=some cs0:=hr;rw [this];rfl
    have e2:zhg 10 (cs0.drop off)=some (zij a):=by
      have k:=zvz a.l r cs ha hl;rw [a.h] at k;rw [← List.take_append_drop cs.length (cs0.drop off),hc];exact z7x k
    refine ⟨{ s with rd:=ins s.lim s.rd f },?_,hT.read f,Stp.read (.inl hA),rfl⟩;unfold zjw;simp only [e1];rw [show (mkA f u off).off=off from rfl,e2]
theorem z5m {a b:Ar 10} {r r2:List T} (ha:natM a) (hb:natM b):KeyT zjj [] [.cp (a.l.map (T.int .i64)++r),.cp (b.l.map (T.int .i64)++r2)] (zij a++zij b):=by
  intro A β S s vs hT hv
  cases hv with
  |cons h1 h2 =>
    cases h2 with
    |cons h3 h4 =>
      cases h4;obtain ⟨s1,k1,k2,k3,k4⟩:=zvy ha hT h1;obtain ⟨s2,m1,m2,m3,m4⟩:=zvy hb k2 (by rw [k4];exact h3);refine ⟨s2,?_,m2,k3.trans hT.le m3,by rw [m4,k4]⟩
      show (match zjw 10 s _ with
        |some (l,s1)=>(match zjw 10 s1 _ with|some (m,s2)=>some (l++m,s2)|none=>none)
        |none=>none)=_
      rw [k1];simp only;rw [m1]
theorem z8s (a b:Ar 10):zjj.xs (zij a++zij b)=(z7v a b).map fun n=>[Value.int .i64 (.ofNat n)]:=by
  have e:(zij a).length=10:=by unfold zij;rw [List.length_map,a.h]
  show (znn 0 ((zij a++zij b).take 10) ((zij a++zij b).drop 10)).map _=_;rw [← e,List.take_left,List.drop_left,z45];rfl
theorem ybw (ax:Axs):(EE ax).it 140=some zjj:=by
  show z70 Tryz.prog LL 140=some zjj
  kernel_rfl
def rngF {α:Type} (l:List Nat) (e:α) (f:Nat→α):α:=match l with | []=>e|x :: _=>f x
theorem isr {α:Type} {l:List Nat} {e:Option α} {f:Nat→Option α} {v:α} (h:rngF l e f=some v):(l=[]∧e=some v)∨∃ x r,l=x :: r∧f x=some v:=by
  cases l with
  |nil=>exact .inl ⟨rfl,h⟩
  |cons x r=>exact .inr ⟨x,r,rfl,h⟩
section
variable {ax:Axs} {N:Nat} {h:Nat→T} {bs:List Box} {Q:Exit→(Nat→T)→TS→Prop} {F R:Prop} {a b:Ar 10} {r r2:List T}
theorem rx0 {t : Tmp} {ps : Array Tmp} {c d : Code} (f : F) (k : R) (ha : natM a) (hb : natM b) (hl : z7v a b = []) (hg : F → h t = .fn 140 [] [.cp (a.l.map (T.int .i64) ++ r), .cp (b.l.map (T.int .i64) ++ r2)] := by intro q; first | (simp only [q]; done) | (simp only [q]; rfl))
    (hR:R→Q .normal h (stL bs):=by intro k;first | (simp (disch:=decide) only [onT,onTB,Nat.beq_refl,zkm,cond_true,cond_false];exact k)|exact k):TW Tryz.prog (EE ax) [] N (.rangeFunc (.tmp t) ps c d) h (stL bs) Q :=
  TW.rng0 (hg f) (ybw ax) (z5m ha hb) (by rw [z8s,hl];rfl) (hR k)
theorem rx1 {t p : Tmp} {id : Nat} {ops : Array Oper} {dr : Bool} {d : Code} {x : Nat} {l : List Nat} (f : F) (ha : natM a) (hb : natM b) (hl : z7v a b = x :: l) (k : TW Tryz.prog (EE ax) [] N (.seq (.region id ops dr) d) (tupd h p (.int .i64 (x : Int))) (stL bs) (RX h Q)) (hg : F → h t = .fn 140 [] [.cp (a.l.map (T.int .i64) ++ r), .cp (b.l.map (T.int .i64) ++ r2)] := by intro q; first | (simp only [q]; done) | (simp only [q]; rfl))
    (hp:p<N:=by decide):TW Tryz.prog (EE ax) [] N (.rangeFunc (.tmp t) #[p] (.region id ops dr) d) h (stL bs) Q :=
  TW.rng1 (.int .i64 (x:Int)) (hg f) (ybw ax) (z5m ha hb) hp (by rw [z8s,hl];rfl) (fun _ _ _=>.int _ _) k
theorem xr {i:Nat} {h1:Nat→T} {Q1:Exit→(Nat→T)→TS→Prop} (k:R) (hR:R→Q1 (.exit i) h1 (stL bs):=by intro k;first | (simp (disch:=decide) only [onT,onTB,ykr,Nat.beq_refl,zkm,cond_true,cond_false];exact k)|exact k):TW Tryz.prog (EE ax) [] N (.exit i) h1 (stL bs) Q1:=TW.exit (hR k)
end
end
section
open Go Go.RowKit
set_option maxRecDepth 100000
def zkv (k:Nat) (p:Pat):Option (Ar 10):=some p.bits
set_option maxHeartbeats 8000000 in
theorem zuk (ax:Axs) (hx:zbx ax) (k:Nat) (p:Pat) (v:Ar 10) (H:zkv k p=some v):Pure Tryz.prog (EE ax) [] 120 [ePat p] (.agg (v.l.map (T.int .i64))):=by
 rw [zkv] at H;refine en [.cell 2 39] 5 [0] (hx.no _ (by decide)) (fn120 ax) ?_;intro h hh;repeat apply TW.seq
 refine rk [1,2] [] hh ?_;clear hh h;intro h hh;repeat apply TW.seq
 refine rk [2] [] hh ?_;clear hh h;intro h hh;cases H;exact rtc hh
def zgk (k:Nat) (i:Int):Option Int:=(if (0:Int)≤i∧0<16 then (if (0:Int)≤(IntKind.i64.wrap (15 - (i % 16))) then some (iShl .i64 1 (IntKind.i64.wrap (15 - (i % 16)))) else none) else none)
set_option maxHeartbeats 8000000 in
theorem zjs (ax:Axs) (hx:zbx ax) (k:Nat) (i:Int) (v:Int) (H:zgk k i=some v):Pure Tryz.prog (EE ax) [] 142 [.int .i64 i] (.int .i64 v):=by
 rw [zgk] at H;refine en [.tmp 2] 7 [0] (hx.no _ (by decide)) (fn142 ax) ?_;intro h hh;repeat apply TW.seq
 refine rk [0] [] hh ?_;clear hh h;intro h hh;obtain ⟨g1,H⟩:=isg H;obtain ⟨g2,H⟩:=isg H;repeat apply TW.seq
 refine rk [2] [] (f2 hh (ylx (k:=.i64) (k':=.i64) (a:=1) g2)) ?_;clear hh h;intro h hh;cases H;exact rt hh
def zh0 (k:Nat) (p:Pat) (i:Int) (b:Int):Option Pat:=(if (0:Int)≤i∧0<16 then (if (0:Int)≤(IntKind.i64.wrap (i / 16))∧(IntKind.i64.wrap (i / 16))<(10:Int) then ((zgk k i).bind fun rvalue=>((zgk k i).bind fun rvalue2=>(if b=1 then ((zgk k i).bind fun rvalue3=>some (⟨p.mask.set (IntKind.i64.wrap (i / 16)) (iOr .i64 (gx p.mask.l (IntKind.i64.wrap (i / 16))) rvalue),(p.bits.set (IntKind.i64.wrap (i / 16)) (zl6 .i64 (gx p.bits.l (IntKind.i64.wrap (i / 16))) rvalue2)).set (IntKind.i64.wrap (i / 16)) (iOr .i64 (gx (p.bits.set (IntKind.i64.wrap (i / 16)) (zl6 .i64 (gx p.bits.l (IntKind.i64.wrap (i / 16))) rvalue2)).l (IntKind.i64.wrap (i / 16))) rvalue3)⟩:Pat)) else some (⟨p.mask.set (IntKind.i64.wrap (i / 16)) (iOr .i64 (gx p.mask.l (IntKind.i64.wrap (i / 16))) rvalue),p.bits.set (IntKind.i64.wrap (i / 16)) (zl6 .i64 (gx p.bits.l (IntKind.i64.wrap (i / 16))) rvalue2)⟩:Pat)))) else none) else none)
set_option maxHeartbeats 8000000 in
theorem zp5 (ax:Axs) (hx:zbx ax) (k:Nat) (p:Pat) (i:Int) (b:Int) (v:Pat) (H:zh0 k p i b=some v):Pure Tryz.prog (EE ax) [] 121 [ePat p,.int .i64 i,.int .i64 b] (ePat v):=by
 rw [zh0] at H;refine en [.cell 6 41] 40 [0,1,2] (hx.no _ (by decide)) (fn121 ax) ?_;intro h hh;repeat apply TW.seq
 refine rk [1,2,3,6] [] hh ?_;clear hh h;intro h hh;obtain ⟨g1,H⟩:=isg H;obtain ⟨g2,H⟩:=isg H;obtain ⟨rvalue,e3,H⟩:=zad H;repeat apply TW.seq
 refine dk 7 [1,2,3,6] [.int .i64 rvalue] [] [] (f3 hh (zpt (k:=.i64) (L:=(p.mask.l.map (T.int .i64)++(p.bits.l.map (T.int .i64)))) (r:=(p.bits.l.map (T.int .i64))) p.mask g2) (ygh (k:=.i64) (L:=(p.mask.l.map (T.int .i64)++(p.bits.l.map (T.int .i64)))) (r:=(p.bits.l.map (T.int .i64))) (L2:=((p.mask.set (IntKind.i64.wrap (i / 16)) (iOr .i64 (gx p.mask.l (IntKind.i64.wrap (i / 16))) rvalue)).l.map (T.int .i64)++(p.bits.l.map (T.int .i64)))) p.mask (iOr .i64 (gx p.mask.l (IntKind.i64.wrap (i / 16))) rvalue) g2)) ?_ trivial ?_
 ·exact ⟨(zjs ax hx k i rvalue e3 ).call _,trivial⟩
 clear hh h;intro h hh;obtain ⟨rvalue2,e4,H⟩:=zad H;repeat apply TW.seq
 refine dk 7 [1,2,3,6] [.int .i64 rvalue2] [] [] (f3 hh (zqq (k:=.i64) (off:=10) (L:=((p.mask.set (IntKind.i64.wrap (i / 16)) (iOr .i64 (gx p.mask.l (IntKind.i64.wrap (i / 16))) rvalue)).l.map (T.int .i64)++(p.bits.l.map (T.int .i64)))) (r:=[]) p.bits g2) (setAt (k:=.i64) (off:=10) (L:=((p.mask.set (IntKind.i64.wrap (i / 16)) (iOr .i64 (gx p.mask.l (IntKind.i64.wrap (i / 16))) rvalue)).l.map (T.int .i64)++(p.bits.l.map (T.int .i64)))) (r:=[]) (L2:=((p.mask.set (IntKind.i64.wrap (i / 16)) (iOr .i64 (gx p.mask.l (IntKind.i64.wrap (i / 16))) rvalue)).l.map (T.int .i64)++((p.bits.set (IntKind.i64.wrap (i / 16)) (zl6 .i64 (gx p.bits.l (IntKind.i64.wrap (i / 16))) rvalue2)).l.map (T.int .i64)))) (p:=((p.mask.set (IntKind.i64.wrap (i / 16)) (iOr .i64 (gx p.mask.l (IntKind.i64.wrap (i / 16))) rvalue)).l.map (T.int .i64))) p.bits (zl6 .i64 (gx p.bits.l (IntKind.i64.wrap (i / 16))) rvalue2) g2)) ?_ trivial ?_
 ·exact ⟨(zjs ax hx k i rvalue2 e4 ).call _,trivial⟩
 clear hh h;intro h hh;repeat apply TW.seq
 refine rk [1,3,6,28] [] hh ?_;clear hh h;intro h hh;rcases isp H with ⟨c5,H⟩|⟨c5,H⟩;rotate_left
 ·skip;repeat apply TW.seq
  refine cf (f2 hh (decide_eq_false c5)) ?_;repeat apply TW.seq
  refine sk ?_;repeat apply TW.seq
  refine rk [6] [] hh ?_;clear hh h;intro h hh;cases H;exact rtc hh
 repeat apply TW.seq
 refine ct (f2 hh (decide_eq_true c5)) ?_;obtain ⟨rvalue3,e6,H⟩:=zad H;repeat apply TW.seq
 refine dk 7 [3,6] [.int .i64 rvalue3] [] [] (f3 hh (zqq (k:=.i64) (off:=10) (L:=((p.mask.set (IntKind.i64.wrap (i / 16)) (iOr .i64 (gx p.mask.l (IntKind.i64.wrap (i / 16))) rvalue)).l.map (T.int .i64)++((p.bits.set (IntKind.i64.wrap (i / 16)) (zl6 .i64 (gx p.bits.l (IntKind.i64.wrap (i / 16))) rvalue2)).l.map (T.int .i64)))) (r:=[]) (p.bits.set (IntKind.i64.wrap (i / 16)) (zl6 .i64 (gx p.bits.l (IntKind.i64.wrap (i / 16))) rvalue2)) g2) (setAt (k:=.i64) (off:=10) (L:=((p.mask.set (IntKind.i64.wrap (i / 16)) (iOr .i64 (gx p.mask.l (IntKind.i64.wrap (i / 16))) rvalue)).l.map (T.int .i64)++((p.bits.set (IntKind.i64.wrap (i / 16)) (zl6 .i64 (gx p.bits.l (IntKind.i64.wrap (i / 16))) rvalue2)).l.map (T.int .i64)))) (r:=[]) (L2:=((p.mask.set (IntKind.i64.wrap (i / 16)) (iOr .i64 (gx p.mask.l (IntKind.i64.wrap (i / 16))) rvalue)).l.map (T.int .i64)++(((p.bits.set (IntKind.i64.wrap (i / 16)) (zl6 .i64 (gx p.bits.l (IntKind.i64.wrap (i / 16))) rvalue2)).set (IntKind.i64.wrap (i / 16)) (iOr .i64 (gx (p.bits.set (IntKind.i64.wrap (i / 16)) (zl6 .i64 (gx p.bits.l (IntKind.i64.wrap (i / 16))) rvalue2)).l (IntKind.i64.wrap (i / 16))) rvalue3)).l.map (T.int .i64)))) (p:=((p.mask.set (IntKind.i64.wrap (i / 16)) (iOr .i64 (gx p.mask.l (IntKind.i64.wrap (i / 16))) rvalue)).l.map (T.int .i64))) (p.bits.set (IntKind.i64.wrap (i / 16)) (zl6 .i64 (gx p.bits.l (IntKind.i64.wrap (i / 16))) rvalue2)) (iOr .i64 (gx (p.bits.set (IntKind.i64.wrap (i / 16)) (zl6 .i64 (gx p.bits.l (IntKind.i64.wrap (i / 16))) rvalue2)).l (IntKind.i64.wrap (i / 16))) rvalue3) g2)) ?_ trivial ?_
 ·exact ⟨(zjs ax hx k i rvalue3 e6 ).call _,trivial⟩
 clear hh h;intro h hh;repeat apply TW.seq
 refine rk [6] [] hh ?_;clear hh h;intro h hh;cases H;exact rtc hh
def zau (k:Nat) (p:Pat) (l:List Pat):Nat→Int→Int→(List Pat)→Nat→Option ((Ar 10×Bool) ⊕ (Int×List Pat×Nat))
 |0,_,_,_,_=>none
 |m+1,at_,i,l2,n=>(if i<(l.length:Int) then (if (0:Int)≤i∧i<(l.length:Int) then ((zet k p (gx l i)).bind fun rOverlap=>(if rOverlap=true then (if (n+1)*161≤1000000000 then (if natM ((gx l i).mask) then (if natM p.mask then (rngF (z7v ((gx l i).mask) p.mask) (if ((-1):Int)<0 then some (.inl ((zA 10),false)) else zau k p l m (min at_ (-1)) (IntKind.i64.wrap (i+1)) (l2++[(gx l i)]) (n+1)) (fun x=>(if (x:Int)<0 then some (.inl ((zA 10),false)) else zau k p l m (min at_ (x:Int)) (IntKind.i64.wrap (i+1)) (l2++[(gx l i)]) (n+1)))) else none) else none) else none) else zau k p l m at_ (IntKind.i64.wrap (i+1)) l2 n)) else none) else some (.inr (at_,l2,n)))
def zbt (k:Nat):Nat→Pat→(List Pat)→Option (Ar 10×Bool)
 |0,_,_=>none
 |m+1,p,l=>((zau k p l k 160 0 [] 0:Option ((Ar 10×Bool) ⊕ (Int×List Pat×Nat))).bind fun o=>Sum.elim (fun r=>some r) (fun s_=>(if (s_.2.2:Int)=0 then ((zkv k p).bind fun rLeast=>some (rLeast,true)) else ((zh0 k p s_.1 0).bind fun rfix=>(if s_.2.1.length=s_.2.2 then ((zbt k m rfix s_.2.1).bind fun rb=>(if rb.2=true then some (rb.1,true) else ((zh0 k p s_.1 1).bind fun rfix2=>((zbt k m rfix2 s_.2.1).bind fun rb2=>some (rb2.1,rb2.2))))) else none)))) o)
def zhp (k:Nat) (p:Pat) (l:List Pat):Option (Ar 10×Bool):=zbt k k p l
set_option maxHeartbeats 8000000 in
theorem zll (ax:Axs) (hx:zbx ax) (k:Nat):∀ (m:Nat) (p:Pat) (l:List Pat) (v:Ar 10×Bool) (H:zbt k m p l=some v),Call Tryz.prog (EE ax) [] 117 [ePat p,lPat l,.ptr 0 0 1] (stL [.cells true 1 [.fn 117 [] [.ptr 0 0 1]]]) (tupT [.agg (v.1.l.map (T.int .i64)),.bool v.2]) (stL [.cells true 1 [.fn 117 [] [.ptr 0 0 1]]]):=by
 intro m
 induction m with
 |zero=>intro p l v H;cases H
 |succ m ih =>
  intro p l v H;rw [zbt] at H;refine enB [.cell 5 39,.tmp 6] 65 [0,1,2] (hx.no _ (by decide)) (fn117 ax) ?_;intro h hh;repeat apply TW.seq
  refine rk [1,2,3,5] [] hh ?_;clear hh h;intro h hh;repeat apply TW.seq
  refine rk [1,2,3,5,7] [] hh ?_;clear hh h;intro h hh;refine vk 7 20 [1,2,3,5,7] hh ?_;clear hh h;intro h hh;repeat apply TW.seq
  refine rk [1,2,3,5,7,8] [] hh ?_;clear hh h;intro h hh;repeat apply TW.seq
  refine rk [2,3,5,7,8,15,16,17] [] (f2 hh (ziw ax)) ?_;clear hh h;intro h hh;obtain ⟨o,H1,H⟩:=zad H;repeat apply TW.seq
  refine cu [2,3,5,7,8] 4 (fun h bs=>∃ s_:Int×List Pat×Nat,o=.inr s_∧(h 2=.ptr 0 0 1∧h 3=.ptr 1 0 20∧h 5=.ptr 2 0 10∧h 7=.arr 3 20 0 s_.2.2 s_.2.2 (s_.2.2*20)∧h 8=.int .i64 s_.1)∧bs=[.cells true 1 [.fn 117 [] [.ptr 0 0 1]],.cells true 20 (p.mask.l.map (T.int .i64)++(p.bits.l.map (T.int .i64))),.cells true 10 ((zA 10).l.map (T.int .i64)),.cells false (s_.2.2*20) (vecC ePat s_.2.1)]) ?_ ?_
  ·skip;repeat apply TW.seq
   apply TW.block;repeat apply TW.seq
   refine TW.loopT [2,3,5,7,8,15,16,17] (fun m h bs=>∃ (at_:Int) (i:Int) (l2:List Pat) (n:Nat),zau k p l m at_ i l2 n=some o∧(h 2=.ptr 0 0 1∧h 3=.ptr 1 0 20∧h 5=.ptr 2 0 10∧h 7=.arr 3 20 0 n n (n*20)∧h 8=.int .i64 at_∧h 15=lPat l∧h 16=.int .i64 (l.length:Int)∧h 17=.int .i64 i)∧bs=[.cells true 1 [.fn 117 [] [.ptr 0 0 1]],.cells true 20 (p.mask.l.map (T.int .i64)++(p.bits.l.map (T.int .i64))),.cells true 10 ((zA 10).l.map (T.int .i64)),.cells false (n*20) (vecC ePat l2)]) ?_ k _ _ ?_;rotate_left
   ·exact ⟨160,0,[],0,H1,kq hh,rfl⟩
   clear hh h H1;rintro m h bs ⟨at_,i,l2,n,H1,hh,rfl⟩;rcases m with _|m
   ·rw [zau] at H1;cases H1
   rw [zau] at H1;repeat apply TW.seq
   refine rk [2,3,5,7,8,15,16,17,18] [] hh ?_;clear hh h;intro h hh;rcases isp H1 with ⟨c1,H1⟩|⟨c1,H1⟩;rotate_left
   ·skip;repeat apply TW.seq
    refine cf (f2 hh (decide_eq_false c1)) ?_;refine xk ?_;cases H1;exact ce hh ⟨_,rfl,kq hh,rfl⟩
   repeat apply TW.seq
   refine ct (f2 hh (decide_eq_true c1)) ?_;repeat apply TW.seq
   refine sk ?_;repeat apply TW.seq
   apply TW.block;obtain ⟨g2,H1⟩:=isg H1;repeat apply TW.seq
   refine rk [2,3,5,7,8,10,15,16,17] [] (f3 hh (zal g2) (ziw ax)) ?_;clear hh h;intro h hh;obtain ⟨rOverlap,e3,H1⟩:=zad H1;repeat apply TW.seq
   refine rkc [2,3,5,7,8,10,15,16,17,24] [] [(.bool rOverlap,stL [.cells true 1 [.fn 117 [] [.ptr 0 0 1]],.cells true 20 (p.mask.l.map (T.int .i64)++(p.bits.l.map (T.int .i64))),.cells true 10 ((zA 10).l.map (T.int .i64)),.cells false (n*20) (vecC ePat l2),.cells true 20 (((gx l i).mask).l.map (T.int .i64)++(((gx l i).bits).l.map (T.int .i64)))])] hh ?_ ?_
   ·exact ⟨zaj.call ((zh7 ax hx k p (gx l i) rOverlap e3 ).call _),trivial⟩
   clear hh h;intro h hh;rcases isb H1 with ⟨c4,H1⟩|⟨c4,H1⟩;rotate_left
   ·skip;repeat apply TW.seq
    refine ct (f2 hh c4) ?_;refine xk ?_;repeat apply TW.seq
    refine rk [2,3,5,7,8,15,16,17] [] (f2 hh c4) ?_;clear hh h;intro h hh;exact rd m hh ⟨at_,(IntKind.i64.wrap (i+1)),l2,n,H1,kq hh,rfl⟩
   repeat apply TW.seq
   refine cf (f2 hh c4) ?_;repeat apply TW.seq
   refine sk ?_;obtain ⟨g5,H1⟩:=isg H1;repeat apply TW.seq
   refine rg [] [] [.cells true 1 [.fn 117 [] [.ptr 0 0 1]],.cells true 20 (p.mask.l.map (T.int .i64)++(p.bits.l.map (T.int .i64))),.cells true 10 ((zA 10).l.map (T.int .i64)),.cells false ((n+1)*20) (vecC ePat (l2++[(gx l i)])),.cells true 20 (((gx l i).mask).l.map (T.int .i64)++(((gx l i).bits).l.map (T.int .i64)))] (fun h=>h 2=.ptr 0 0 1∧h 3=.ptr 1 0 20∧h 5=.ptr 2 0 10∧h 7=.arr 3 20 0 (n+1) (n+1) ((n+1)*20)∧h 8=.int .i64 at_∧h 10=.ptr 4 0 20∧h 15=lPat l∧h 16=.int .i64 (l.length:Int)∧h 17=.int .i64 i) (f3 hh c4 (f3 ((show vecC ePat [(gx l i)]=(((gx l i).mask).l.map (T.int .i64)++(((gx l i).bits).l.map (T.int .i64))) from zgu.trans rfl)) (zoz ax) (zuh ax))) trivial ?_;clear hh h;intro h hh;repeat apply TW.seq
   refine rk [2,3,5,7,8,10,11,15,16,17] [] (f2 hh c4) ?_;clear hh h;intro h hh;repeat apply TW.seq
   refine rkc [2,3,5,7,8,11,15,16,17,31] [] [(.fn 140 [] [.cp (((gx l i).mask).l.map (T.int .i64)++(((gx l i).bits).l.map (T.int .i64))),.cp (p.mask.l.map (T.int .i64)++(p.bits.l.map (T.int .i64)))],stL [.cells true 1 [.fn 117 [] [.ptr 0 0 1]],.cells true 20 (p.mask.l.map (T.int .i64)++(p.bits.l.map (T.int .i64))),.cells true 10 ((zA 10).l.map (T.int .i64)),.cells false ((n+1)*20) (vecC ePat (l2++[(gx l i)])),.cells true 20 (((gx l i).mask).l.map (T.int .i64)++(((gx l i).bits).l.map (T.int .i64))),.cells true 1 [.int .i64 (-1)]])] (f2 hh c4) ?_ ?_
   ·exact ⟨zaj.call (Pure.clr (ya1 ax hx (gx l i) p) (by first|rfl|simp only [c4])),trivial⟩
   clear hh h;intro h hh;repeat apply TW.seq
   apply TW.block;obtain ⟨g6,H1⟩:=isg H1;obtain ⟨g7,H1⟩:=isg H1;rcases isr H1 with ⟨c8,H1⟩|⟨x,l3,c8,H1⟩;rotate_left
   ·skip;repeat apply TW.seq
    revert h;intro hO hhO;refine rx1 hhO g6 g7 c8 ?_;refine gk [2,3,5,7,8,11,15,16,17,32] hhO ?_;intro h hh;repeat apply TW.seq
    refine rk [2,3,5,7,8,11,12,15,16,17] [] (f2 hh c4) ?_;clear hh h;intro h hh;repeat apply TW.seq
    apply TW.block;repeat apply TW.seq
    refine rk [2,3,5,7,8,11,15,16,17] [] (f2 hh c4) ?_;clear hh h;intro h hh;refine xr ?_;clear hh h;revert hO;intro h hh;repeat apply TW.seq
    refine rk [2,3,5,7,8,11,15,16,17,35] [] (f2 hh c4) ?_;clear hh h;intro h hh;rcases isp H1 with ⟨c9,H1⟩|⟨c9,H1⟩;rotate_left
    ·skip;repeat apply TW.seq
     refine cf (f2 hh (decide_eq_false c9)) ?_;repeat apply TW.seq
     refine sk ?_;repeat apply TW.seq
     refine rk [2,3,5,7,8,15,16,17] [] (f2 hh c4) ?_;clear hh h;intro h hh;repeat apply TW.seq
     refine rk [2,3,5,7,8,15,16,17] [] (f2 hh c4) ?_;clear hh h;intro h hh;exact rd m hh ⟨(min at_ (x:Int)),(IntKind.i64.wrap (i+1)),(l2++[(gx l i)]),(n+1),H1,kq hh,rfl⟩
    repeat apply TW.seq
    refine ct (f2 hh (decide_eq_true c9)) ?_;repeat apply TW.seq
    refine rk [5,6] [] (f3 hh c4 (bz39 ax)) ?_;clear hh h;intro h hh;cases H1;obtain rfl:=sinl H;exact rtBc hh
   repeat apply TW.seq
   refine rx0 hh ?_ g6 g7 c8;repeat apply TW.seq
   refine rk [2,3,5,7,8,11,15,16,17,35] [] (f2 hh c4) ?_;clear hh h;intro h hh;rcases isp H1 with ⟨c10,H1⟩|⟨c10,H1⟩;rotate_left
   ·skip;repeat apply TW.seq
    refine cf (f2 hh (decide_eq_false c10)) ?_;repeat apply TW.seq
    refine sk ?_;repeat apply TW.seq
    refine rk [2,3,5,7,8,15,16,17] [] (f2 hh c4) ?_;clear hh h;intro h hh;repeat apply TW.seq
    refine rk [2,3,5,7,8,15,16,17] [] (f2 hh c4) ?_;clear hh h;intro h hh;exact rd m hh ⟨(min at_ (-1)),(IntKind.i64.wrap (i+1)),(l2++[(gx l i)]),(n+1),H1,kq hh,rfl⟩
   repeat apply TW.seq
   refine ct (f2 hh (decide_eq_true c10)) ?_;repeat apply TW.seq
   refine rk [5,6] [] (f3 hh c4 (bz39 ax)) ?_;clear hh h;intro h hh;cases H1;obtain rfl:=sinl H;exact rtBc hh
  clear hh h;rintro h bs ⟨s_,rfl,hh,rfl⟩;replace H:=sinr H;repeat apply TW.seq
  refine rk [2,3,5,7,8,43] [] (f2 hh (ziw ax)) ?_;clear hh h;intro h hh;rcases isp H with ⟨c11,H⟩|⟨c11,H⟩;rotate_left
  ·skip;repeat apply TW.seq
   refine cf (f2 hh (decide_eq_false c11)) ?_;repeat apply TW.seq
   refine sk ?_;obtain ⟨rfix,e13,H⟩:=zad H;obtain ⟨g14,H⟩:=isg H;repeat apply TW.seq
   refine TW.freeze 7 (b:=3) (e:=20) (off:=0) (len:=s_.2.2) (cap:=s_.2.2) (M:=(s_.2.2*20)) (s_.2.1.map ePat) (kq hh) (by rfl) (by omega) (by omega) (by rw [List.drop_zero];exact zf7 (e:=20) (fun x=>zbb x) g14) (fun t ht=>by obtain ⟨x,_,rfl⟩:=List.mem_map.1 ht;first|rfl|exact zi8 _|exact zbb _|exact zg7 _|exact zba _ | (rw [List.length_map];rfl)) (by rw [List.length_map];exact g14) (by omega) ?_;rw [zhy _ _ _ (by simp only [lzA]<;>omega)];simp only [scA];refine gk [2,3,5,7,8,43] hh ?_;clear hh h;intro h hh;obtain ⟨rb,e15,H⟩:=zad H;repeat apply TW.seq
   refine dk 4 [2,3,5,7,8,13,14] [ePat rfix] [] [(.tup [.agg (rb.1.l.map (T.int .i64)),.bool rb.2],stL [.cells true 1 [.fn 117 [] [.ptr 0 0 1]],.cells true 20 (p.mask.l.map (T.int .i64)++(p.bits.l.map (T.int .i64))),.cells true 10 ((zA 10).l.map (T.int .i64)),.gone])] (f3 hh ydp (z82 ax)) ?_ ?_ ?_
   ·exact ⟨(zp5 ax hx k p s_.1 0 rfix e13 ).call _,trivial⟩
   ·exact ⟨ca [0] (ih rfix s_.2.1 rb e15),trivial⟩
   clear hh h;intro h hh;repeat apply TW.seq
   refine rk [2,3,5,7,8,13,55] [] hh ?_;clear hh h;intro h hh;rcases isb H with ⟨c16,H⟩|⟨c16,H⟩;rotate_left
   ·skip;repeat apply TW.seq
    refine cf (f2 hh c16) ?_;repeat apply TW.seq
    refine sk ?_;obtain ⟨rfix2,e17,H⟩:=zad H;obtain ⟨rb2,e18,H⟩:=zad H;repeat apply TW.seq
    refine dk 4 [5,6] [ePat rfix2] [] [(.tup [.agg (rb2.1.l.map (T.int .i64)),.bool rb2.2],stL [.cells true 1 [.fn 117 [] [.ptr 0 0 1]],.cells true 20 (p.mask.l.map (T.int .i64)++(p.bits.l.map (T.int .i64))),.cells true 10 ((zA 10).l.map (T.int .i64)),.gone,.cells true 10 (rb.1.l.map (T.int .i64))])] (f3 hh c16 (f2 ydp (z82 ax))) ?_ ?_ ?_
    ·exact ⟨Pure.clr (zp5 ax hx k p s_.1 1 rfix2 e17 ) (by first|rfl|simp only [c16]),trivial⟩
    ·exact ⟨ca [0] (ih rfix2 s_.2.1 rb2 e18),trivial⟩
    clear hh h;intro h hh;cases H;exact rtBc hh
   repeat apply TW.seq
   refine ct (f2 hh c16) ?_;repeat apply TW.seq
   refine rk [5,6] [] (f2 hh c16) ?_;clear hh h;intro h hh;cases H;exact rtBc hh
  repeat apply TW.seq
  refine ct (f2 hh (decide_eq_true c11)) ?_;obtain ⟨rLeast,e12,H⟩:=zad H;repeat apply TW.seq
  refine rkc [5,6] [] [(.agg (rLeast.l.map (T.int .i64)),stL [.cells true 1 [.fn 117 [] [.ptr 0 0 1]],.cells true 20 (p.mask.l.map (T.int .i64)++(p.bits.l.map (T.int .i64))),.cells true 10 ((zA 10).l.map (T.int .i64)),.cells false (s_.2.2*20) (vecC ePat s_.2.1)])] hh ?_ ?_
  ·exact ⟨zaj.call ((zuk ax hx k p rLeast e12 ).call _),trivial⟩
  clear hh h;intro h hh;cases H;exact rtBc hh
theorem zm2 (ax:Axs) (hx:zbx ax) (k:Nat) (p:Pat) (l:List Pat) (v:Ar 10×Bool) (H:zhp k p l=some v):Call Tryz.prog (EE ax) [] 117 [ePat p,lPat l,.ptr 0 0 1] (stL [.cells true 1 [.fn 117 [] [.ptr 0 0 1]]]) (tupT [.agg (v.1.l.map (T.int .i64)),.bool v.2]) (stL [.cells true 1 [.fn 117 [] [.ptr 0 0 1]]]):=zll ax hx k k p l v H
def zds (k:Nat) (p:Pat) (l:List Pat):Option (Ar 10×Bool):=((zhp k p l).bind fun rb=>some (rb.1,rb.2))
set_option maxHeartbeats 8000000 in
theorem zle (ax:Axs) (hx:zbx ax) (k:Nat) (p:Pat) (l:List Pat) (v:Ar 10×Bool) (H:zds k p l=some v):Pure Tryz.prog (EE ax) [] 67 [ePat p,lPat l] (tupT [.agg (v.1.l.map (T.int .i64)),.bool v.2]):=by
 rw [zds] at H;refine enN [.cell 4 39,.tmp 5] 14 [0,1] (hx.no _ (by decide)) (fn67 ax) ?_;intro h hh;repeat apply TW.seq
 refine rk [1,2,4] [] hh ?_;clear hh h;intro h hh;repeat apply TW.seq
 refine rk [1,2,4,6] [] (f3 hh ydp (z82 ax)) ?_;clear hh h;intro h hh;repeat apply TW.seq
 refine rk [1,2,4,6] [] (f3 hh ydp (z82 ax)) ?_;clear hh h;intro h hh;obtain ⟨rb,e1,H⟩:=zad H;repeat apply TW.seq
 refine rkc [4,5] [] [(.tup [.agg (rb.1.l.map (T.int .i64)),.bool rb.2],stL [.cells true 20 (p.mask.l.map (T.int .i64)++(p.bits.l.map (T.int .i64))),.cells true 10 ((zA 10).l.map (T.int .i64)),.cells true 1 [.fn 117 [] [.ptr 2 0 1]]])] (f3 hh ydp (z82 ax)) ?_ ?_
 ·exact ⟨ca [2] (zm2 ax hx k p l rb e1),trivial⟩
 clear hh h;intro h hh;cases H;exact rtc hh
end
section
open Go Go.RowKit
def zdk (p q:Pat):Bool:=(List.range 160).all fun i=>!(hbit p.mask i && hbit q.mask i) || (hbit p.bits i == hbit q.bits i)
theorem zh1 {p q:Pat}:zdk p q=true↔∀ i,i<160→hbit p.mask i=true→hbit q.mask i=true→hbit p.bits i=hbit q.bits i:=by
  unfold zdk;rw [List.all_eq_true];constructor
  · intro hh i hi hm hq;have:=hh i (List.mem_range.2 hi);rw [hm,hq] at this;simpa using this
  · intro hh i hi;have:=hh i (List.mem_range.1 hi)
    cases hm:hbit p.mask i with
    |false=>rfl
    |true =>
      cases hq:hbit q.mask i with
      |false=>rfl
      |true=>simpa using this hm hq
theorem zqu {k:Nat} {p q:Pat} (hp:zag p=true) (hq:zag q=true) (hk:10<k):zet k p q=some (zdk p q):=by
  obtain ⟨pm,pb,_⟩:=zai.1 hp;obtain ⟨qm,qb,_⟩:=zai.1 hq;unfold zet
  rw [zh2 (L:=zcb k p q) 10 false (fun j=>decide ((hw p.bits j ^^^ hw q.bits j) &&& (hw p.mask j &&& hw q.mask j)=0)) (by decide) (fun m j hj=>by
    obtain ⟨a1,a2⟩:=zbh pb hj;obtain ⟨b1,b2⟩:=zbh pm hj;obtain ⟨c1,c2⟩:=zbh qb hj;obtain ⟨d1,d2⟩:=zbh qm hj;have hx:hw p.bits j ^^^ hw q.bits j<2 ^ 16:=Nat.xor_lt_two_pow a2 c2;have hy:(hw p.bits j ^^^ hw q.bits j) &&& hw p.mask j≤hw p.mask j:=Nat.and_le_right;rw [zcb,if_pos (lt10 hj),if_pos ⟨by omega,lt10 hj⟩,a1,b1,c1,d1,z52 (by omega) (by omega),zrl (by omega) (by omega),zrl (by omega) (by omega),Nat.and_assoc];by_cases c:(hw p.bits j ^^^ hw q.bits j) &&& (hw p.mask j &&& hw q.mask j)=0
    · rw [if_neg (by omega),if_pos (decide_eq_true c)]
    · rw [if_pos (by omega),if_neg (by rw [decide_eq_true_eq];exact c)]) (fun m=>by rw [zcb];exact if_neg (by decide)) hk,Option.bind_some]
  have e:(List.range 10).all (fun j=>decide ((hw p.bits j ^^^ hw q.bits j) &&& (hw p.mask j &&& hw q.mask j)=0))=zdk p q:=by
    rw [Bool.eq_iff_iff,List.all_eq_true,zh1];have hand:∀ j,j<10→hw p.mask j &&& hw q.mask j<65536:=fun j hj=>Nat.lt_of_le_of_lt Nat.and_le_left (zbh pm hj).2;constructor
    · intro hall i hi h1 h2;have:=of_decide_eq_true (hall (i / 16) (List.mem_range.2 (by omega)));refine (zmi (zbh pb (by omega)).2 (zbh qb (by omega)).2 (hand (i / 16) (by omega))).1 this (15 - i % 16) (by omega) ?_;rw [Nat.testBit_and];unfold hbit at h1 h2;rw [h1,h2];rfl
    · intro hall j hj;have hj':=List.mem_range.1 hj;refine decide_eq_true ((zmi (zbh pb hj').2 (zbh qb hj').2 (hand j hj')).2 fun t ht h1=>?_);rw [Nat.testBit_and,Bool.and_eq_true] at h1;rw [← zhr p.bits hj' ht,← zhr q.bits hj' ht];exact hall _ (z13 j t hj' ht).2.2 (by rw [zhr p.mask hj' ht];exact h1.1) (by rw [zhr q.mask hj' ht];exact h1.2)
  rw [e];cases zdk p q<;>rfl
theorem z32 {a:Ar 10} {i w:Nat} (ha:zab a=true) (hi:i<160) (hw':w<65536):zab (a.set ((i / 16:Nat):Int) (w:Int))=true∧∀ j,j<160→hbit (a.set ((i / 16:Nat):Int) (w:Int)) j=if j / 16=i / 16 then w.testBit (15 - j % 16) else hbit a j:=by
  have hi10:i / 16<10:=by omega
  refine ⟨zjh fun j hj=>?_,fun j hj=>?_⟩
  · by_cases c:i / 16=j
    · subst c;exact ⟨w,zhs _ hi10,hw'⟩
    · rw [zki _ hj c];exact ⟨_,(zbh ha hj).1,(zbh ha hj).2⟩
  · unfold hbit hw;by_cases c:i / 16=j / 16
    · rw [if_pos c.symm,← c,zhs _ hi10];rfl
    · rw [if_neg (fun q=>c q.symm),zki _ (by omega) c]
theorem z81 {i:Nat}:2 ^ (15 - i % 16)<65536:=show 2 ^ (15 - i % 16)<2 ^ 16 from Nat.pow_lt_pow_right (by decide) (by omega)
theorem yln {a:Ar 10} {i:Nat} (ha:zab a=true) (hi:i<160):zab (a.set ((i / 16:Nat):Int) (iOr .i64 (gx a.l ((i / 16:Nat):Int)) ((2 ^ (15 - i % 16):Nat):Int)))=true∧∀ j,j<160→hbit (a.set ((i / 16:Nat):Int) (iOr .i64 (gx a.l ((i / 16:Nat):Int)) ((2 ^ (15 - i % 16):Nat):Int))) j=(decide (j=i) || hbit a j):=by
  obtain ⟨a1,a2⟩:=zbh ha (show i / 16<10 by omega);have h2:=z81 (i:=i);rw [a1,z3a (by omega) (by omega)];obtain ⟨r1,r2⟩:=z32 ha hi (w:=hw a (i / 16) ||| 2 ^ (15 - i % 16)) (Nat.or_lt_two_pow (n:=16) a2 h2);refine ⟨r1,fun j hj=>?_⟩;rw [r2 j hj];by_cases c:j / 16=i / 16
  · rw [if_pos c,Nat.testBit_or,zu1,← c,Bool.or_comm];congr 1;exact decide_eq_decide.2 (by omega)
  · rw [if_neg c,decide_eq_false (by intro q;subst q;exact c rfl),Bool.false_or]
theorem yio {a:Ar 10} {i:Nat} (ha:zab a=true) (hi:i<160):zab (a.set ((i / 16:Nat):Int) (zl6 .i64 (gx a.l ((i / 16:Nat):Int)) ((2 ^ (15 - i % 16):Nat):Int)))=true∧∀ j,j<160→hbit (a.set ((i / 16:Nat):Int) (zl6 .i64 (gx a.l ((i / 16:Nat):Int)) ((2 ^ (15 - i % 16):Nat):Int))) j=(!decide (j=i) && hbit a j):=by
  obtain ⟨a1,a2⟩:=zbh ha (show i / 16<10 by omega);have h2:=z81 (i:=i);rw [a1,ycb (by omega) (by omega)];obtain ⟨r1,r2⟩:=z32 ha hi (w:=hw a (i / 16) - (hw a (i / 16) &&& 2 ^ (15 - i % 16))) (by omega);refine ⟨r1,fun j hj=>?_⟩;rw [r2 j hj];by_cases c:j / 16=i / 16
  · rw [if_pos c,zxd (by omega) (by omega),zu1,← c,Bool.and_comm];congr 2;exact decide_eq_decide.2 (by omega)
  · rw [if_neg c,decide_eq_false (by intro q;subst q;exact c rfl),Bool.not_false,Bool.true_and]
theorem ymj {k i:Nat} (hi:i<160):zgk k (i:Int)=some ((2 ^ (15 - i % 16):Nat):Int):=by
  have e:IntKind.i64.wrap (15 - ((i:Int) % 16))=((15 - i % 16:Nat):Int):=by rw [wr64 (by omega)];omega
  unfold zgk;rw [if_pos ⟨by omega,by decide⟩,e,if_pos (by omega)];have h2:=z81 (i:=i);unfold iShl
  have e2:min ((15 - i % 16:Nat):Int).toNat IntKind.i64.bits=15 - i % 16:=by
    have:IntKind.i64.bits=64:=rfl;rw [this];omega
  rw [e2,Int.one_mul,show ((2:Int) ^ (15 - i % 16))=((2 ^ (15 - i % 16):Nat):Int) by push_cast;rfl];generalize 2 ^ (15 - i % 16)=w at h2 ⊢;rw [wr64 (by omega)]
structure zw3 (p:Pat) (i:Nat) (b:Bool) (r:Pat):Prop where
  mask:zab r.mask=true
  bits:zab r.bits=true
  hm:∀ j,j<160→hbit r.mask j=(decide (j=i) || hbit p.mask j)
  hb:∀ j,j<160→hbit r.bits j=if j=i then b else hbit p.bits j
theorem z65 {k i:Nat} {p:Pat} {b:Bool} (hp:zag p=true) (hi:i<160):∃ r,zh0 k p (i:Int) (b.toNat:Int)=some r∧zw3 p i b r:=by
  obtain ⟨pm,pb,_⟩:=zai.1 hp;have hw16:IntKind.i64.wrap ((i:Int) / 16)=((i / 16:Nat):Int):=zw7 hi;have hi10:i / 16<10:=by omega
  unfold zh0;rw [if_pos ⟨by omega,by decide⟩,hw16,if_pos ⟨by omega,by omega⟩,ymj hi,Option.bind_some,Option.bind_some];obtain ⟨m1,m2⟩:=yln pm hi;obtain ⟨c1,c2⟩:=yio pb hi
  cases b with
  |false =>
    rw [if_neg (by decide)];exact ⟨_,rfl,m1,c1,m2,fun j hj=>by rw [c2 j hj];by_cases q:j=i<;>simp [q]⟩
  |true =>
    rw [if_pos (by decide),Option.bind_some];obtain ⟨o1,o2⟩:=yln c1 hi;exact ⟨_,rfl,m1,o1,m2,fun j hj=>by rw [o2 j hj,c2 j hj];by_cases q:j=i<;>simp [q]⟩
/-! the first open bit -/
def ze8 (a b:Nat):Nat:=(a - (a &&& b)) % 65536
theorem zvq:∀ (l m:List Nat) (i:Nat),l.length=m.length→(zq0 i l m=[]∧∀ s,s<l.length→ze8 (l.getD s 0) (m.getD s 0)=0)∨∃ s,s<l.length∧(∀ s',s'<s→ze8 (l.getD s' 0) (m.getD s' 0)=0)∧ze8 (l.getD s 0) (m.getD s 0)≠0∧∃ r,zq0 i l m=(16*(i+s)+(15 - Nat.log2 (ze8 (l.getD s 0) (m.getD s 0)))) :: r
  |[],m,i,h=>.inl ⟨by unfold zq0;rfl,fun s hs=>by simp at hs⟩
  |a :: l,[],i,h=>by simp at h
  |a :: l,b :: m,i,h=>by
    have e:zq0 i (a :: l) (b :: m)=(zuo 17 (ze8 a b)).map (fun x=>16*i+x)++zq0 (i+1) l m:=by rw [zq0];rfl
    rw [e];by_cases c:ze8 a b=0
    · have e0:zuo 17 (ze8 a b)=[]:=by rw [c];rfl
      rw [e0,List.map_nil,List.nil_append];rcases zvq l m (i+1) (by simpa using h) with ⟨h1,h2⟩|⟨s,h1,h2,h3,r,h4⟩
      · refine .inl ⟨h1,fun s hs=>?_⟩
        cases s with
        |zero=>exact c
        |succ s=>exact h2 s (by simpa using hs)
      · refine .inr ⟨s+1,by simpa using h1,fun s' hs'=>?_,h3,r,?_⟩
        · cases s' with
          |zero=>exact c
          |succ s'=>exact h2 s' (by omega)
        · rw [h4,List.getD_cons_succ,List.getD_cons_succ,show i+1+s=i+(s+1) by omega]
    · have e0:zuo 17 (ze8 a b)=(15 - Nat.log2 (ze8 a b)) :: zuo 16 (ze8 a b - 2 ^ Nat.log2 (ze8 a b)):=by rw [zuo,if_neg c]
      rw [e0];exact .inr ⟨0,by simp,fun s' hs'=>by omega,c,_,rfl⟩
theorem z7s {a b t:Nat} (ha:a<65536) (hb:b<65536) (ht:t<16):(ze8 a b).testBit t=(a.testBit t && !b.testBit t):=by
  unfold ze8;rw [Nat.mod_eq_of_lt (by omega),zxd (by omega) (by omega)]
theorem z0l {a:Ar 10} {s:Nat} (hs:s<10):(zij a).getD s 0=hw a s:=by
  unfold zij hw;rw [znc,List.getD_eq_getElem?_getD,List.getD_eq_getElem?_getD,List.getElem?_map]
  cases h:a.l[s]? with
  |none=>rw [List.getElem?_eq_none_iff] at h;have:=a.h;omega
  |some x=>rfl
def zhf (q p:Pat) (i:Nat):Bool:=hbit q.mask i && !hbit p.mask i
theorem z7u {q p:Pat} (hq:zab q.mask=true) (hp:zab p.mask=true):(z7v q.mask p.mask=[]∧∀ i,i<160→zhf q p i=false)∨∃ x r,z7v q.mask p.mask=x :: r∧x<160∧zhf q p x=true∧∀ i,i<x→zhf q p i=false:=by
  have hl:∀ a:Ar 10,(zij a).length=10:=fun a=>by unfold zij;rw [List.length_map,a.h]
  have hW:∀ s,s<10→ze8 ((zij q.mask).getD s 0) ((zij p.mask).getD s 0)=ze8 (hw q.mask s) (hw p.mask s):=fun s hs=>by rw [z0l hs,z0l hs]
  have bit:∀ i,i<160→zhf q p i=(ze8 (hw q.mask (i / 16)) (hw p.mask (i / 16))).testBit (15 - i % 16):=fun i hi=>by
    rw [z7s (zbh hq (by omega)).2 (zbh hp (by omega)).2 (by omega)];rfl
  have zero:∀ s,s<10→ze8 ((zij q.mask).getD s 0) ((zij p.mask).getD s 0)=0→∀ i,i<160→i / 16=s→zhf q p i=false:=fun s hs h0 i hi e=>by
    rw [bit i hi,e,← hW s hs,h0,Nat.zero_testBit]
  rcases zvq (zij q.mask) (zij p.mask) 0 (by rw [hl,hl]) with ⟨h1,h2⟩|⟨s,h1,h2,h3,r,h4⟩
  · refine .inl ⟨h1,fun i hi=>zero (i / 16) (by omega) (h2 _ (by rw [hl];omega)) i hi rfl⟩
  · rw [hl] at h1;rw [hW s h1] at h3 h4;have hlt:ze8 (hw q.mask s) (hw p.mask s)<65536:=Nat.mod_lt _ (by decide);have hlog:Nat.log2 (ze8 (hw q.mask s) (hw p.mask s))<16:=(Nat.log2_lt h3).2 hlt;have htop:(ze8 (hw q.mask s) (hw p.mask s)).testBit (Nat.log2 (ze8 (hw q.mask s) (hw p.mask s)))=true:=Nat.testBit_log2 h3;have hup:∀ t,Nat.log2 (ze8 (hw q.mask s) (hw p.mask s))<t→(ze8 (hw q.mask s) (hw p.mask s)).testBit t=false:=fun t ht=>Nat.testBit_lt_two_pow (Nat.lt_of_lt_of_le (Nat.lt_log2_self) (Nat.pow_le_pow_right (by decide) ht));generalize Nat.log2 (ze8 (hw q.mask s) (hw p.mask s))=g at *;refine .inr ⟨16*(0+s)+(15 - g),r,h4,by omega,?_,fun i hi=>?_⟩
    · rw [bit _ (by omega),show (16*(0+s)+(15 - g)) / 16=s by omega,show 15 - (16*(0+s)+(15 - g)) % 16=g by omega];exact htop
    · by_cases c:i / 16=s
      · rw [bit i (by omega),c];exact hup _ (by omega)
      · exact zero (i / 16) (by omega) (h2 _ (by omega)) i (by omega) rfl
theorem ybe {a:Ar 10} (h:zab a=true):natM a:=by
  intro x hx;unfold zab at h;have:=List.all_eq_true.1 h x hx;unfold zvl at this;have:=of_decide_eq_true this;omega
end
end Go.Proofs.YtjgbkegkcbcjaaaGreat
