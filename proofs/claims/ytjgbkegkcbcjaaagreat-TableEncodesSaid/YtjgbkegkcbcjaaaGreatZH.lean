/- Part 8 of the proof of TableEncodes (several texts in one; no further condition). -/
import Derived.Test.YtjgbkegkcbcjaaaGreatZE
import Derived.Test.YtjgbkegkcbcjaaaGreatZG
import Derived.Test.YtjgbkegkcbcjaaaGreatRows
import Derived.Test.YtjgbkegkcbcjaaaGreatZF
set_option linter.unusedSimpArgs false
set_option linter.unusedVariables false
set_option linter.unusedSectionVars false
namespace Go.Proofs.YtjgbkegkcbcjaaaGreat
section
open Go Go.RowKit
noncomputable def axS:Axs:=z1b 12 (zzk (.bool true)) fun _=>none
theorem ykf:zj2 Tryz.prog GG LL axS:=(zj2.none z29).add (yke (L:=LL) (ax:=fun _=>none) zna (fn12 fun _=>none) rfl rfl z40)
theorem yh9:axS 12=some (zzk (.bool true)):=z5u _ _ _
theorem ya0:zb7 axS:=by
  refine ⟨fun f hf=>ydg _ _ fun h=>?_,rfl,rfl,fun A β s vargs hT hv=>?_⟩
  · subst h;rw [Nat.beq_refl] at hf;cases hf
  · cases hv;exact ⟨.bool true,s,A,β,yc9 (k:=zzk (.bool true)) yh9 rfl,hT,.bool true,Stp.refl⟩
theorem z8l {f:FuncId} {fn:Func} {body:Code} (hfn:(EE axS).fn.at f=some fn) (hb:fn.body=some body) {args:List T} {vs:Array Value} {W:World} (h:RtL W args vs.toList) (hp:Pure Tryz.prog (EE axS) [] f args (.bool true)) :
    Calls Tryz.prog f vs W fun e W'=>e=.returned (.bool true)∧Below W.heap.size W W':=by
  obtain ⟨A,xs,k⟩:=entL (N:=W.heap.size) (G:=GG) (K:=[]) rfl (fun p hp=>by simp at hp) (fun g hg=>by simp [has,GG] at hg) h [];have e:([]:List Seg)++A++[]=A:=by simp
  have kr:=k.vr [];have kl:=k.vl [];have ka:=k.at_ [];rw [e] at kr kl ka;obtain ⟨r1,r2,r3,r4⟩:=z6s (G:=GG) (N:=W.heap.size) (K:=[]) (A:=A) rfl (fun p hp=>by simp at hp) (fun p hp=>by simp at hp) (fun g hg=>by simp [has,GG] at hg) ka
  have hT:TRel [] (Low W.heap.size) bx0 ts0 (St (W.heap.size+A.length) (famS W.heap.size [] A) 0 [] []) :=
    ⟨⟨_,rfl⟩,r2,fun f hf=>by have:f<W.heap.size:=hf;show f<W.heap.size+A.length;omega,fun f hf=>absurd hf zkx,fun b b' l l' f hb=>by simp [bx0] at hb,fun b _=>rfl,fun b z N l hb=>by simp [ts0] at hb,fun b l hb=>by simp [ts0] at hb,fun x hx=>by simp at hx⟩
  obtain ⟨v,s2,A',β',e1,e2,e3,e4⟩:=hp.2.2 _ _ _ xs hT kl;cases e3;refine (yc6 z0e zna ykf hfn hb (args':=vs) e1 kr r1 r4 r2 r3).mono ?_;rintro e w' ⟨σ',v',rfl,k1,k2⟩;exact ⟨by rw [zvg 3 rfl k1],k2⟩
end
section
open Go Go.RowKit
abbrev big:Nat:=9223372036854775808
theorem zp3 (i:Nat) (h:i<9223372036854775807):IntKind.i64.wrap ((i:Int)+1)=((i+1:Nat):Int):=by
  rw [wr64 (by omega)];push_cast;rfl
theorem z9h {α:Type} [Inhabited α] (l:List α) (i:Nat):gx l (i:Int)=l.getD i default:=rfl
theorem zfi {α:Type} [Inhabited α] {l:List α} {i:Nat} (h:i<l.length):gx l (i:Int)=l[i]:=by
  rw [z9h,List.getD_eq_getElem?_getD,List.getElem?_eq_getElem h];rfl
section
variable {α β σ:Type}
def sumO (o:Option β):β ⊕ Unit:=match o with|some b=>.inl b|none=>.inr ()
theorem zto {L : Nat → Int → Option (β ⊕ Unit)} (n : Nat) (c : Nat → Option β) (hn : n < big) (hs : ∀ m (j : Nat), j < n → L (m + 1) (j : Int) = match c j with | some b => some (.inl b) | none => L m (IntKind.i64.wrap ((j : Int) + 1)))
    (he:∀ m,L (m+1) (n:Int)=some (.inr ())) {k:Nat} (hk:n<k):L k 0=some (sumO ((List.range n).findSome? c)):=by
  have key:∀ m j,j≤n→n - j<m→L m (j:Int)=some (sumO ((List.range' j (n - j)).findSome? c)):=by
    intro m
    induction m with
    |zero=>intro j h1 h2;omega
    |succ m ih =>
      intro j h1 h2;by_cases hj:j<n
      · rw [hs m j hj,show n - j=(n - (j+1))+1 by omega,List.range'_succ,List.findSome?_cons]
        cases hc:c j with
        |some b=>rfl
        |none =>
          simp only;rw [zp3 j (by simp only [big] at hn;omega)];exact ih (j+1) (by omega) (by omega)
      · obtain rfl:j=n:=by omega
        rw [he,Nat.sub_self];rfl
  have:=key k 0 (Nat.zero_le _) (by omega);rw [List.range_eq_range'];exact this
theorem zoy {c:Nat→Option β} {d:α→Option β}:∀ (l:List α) (s:Nat),(∀ j (h:j<l.length),c (s+j)=d l[j])→(List.range' s l.length).findSome? c=l.findSome? d
  |[],s,_=>rfl
  |x :: l,s,h=>by
    rw [List.length_cons,List.range'_succ,List.findSome?_cons,List.findSome?_cons];have h0:=h 0 (by simp);rw [Nat.add_zero] at h0;rw [h0];simp only [List.getElem_cons_zero];rw [zoy l (s+1) fun j hj=>by have:=h (j+1) (by simpa using hj);rw [show s+(j+1)=s+1+j by omega] at this;simpa using this]
theorem z8j {L : Nat → Int → Option (β ⊕ Unit)} (l : List α) (c : α → Option β) (hn : l.length < big) (hs : ∀ m (j : Nat) (h : j < l.length), L (m + 1) (j : Int) = match c l[j] with | some b => some (.inl b) | none => L m (IntKind.i64.wrap ((j : Int) + 1)))
    (he:∀ m,L (m+1) (l.length:Int)=some (.inr ())) {k:Nat} (hk:l.length<k):L k 0=some (sumO (l.findSome? c)):=by
  rw [zto l.length (fun j=>if h:j<l.length then c l[j] else none) hn (fun m j h=>by rw [hs m j h,dif_pos h]) he hk,List.range_eq_range'];rw [zoy l 0 fun j h=>by rw [Nat.zero_add,dif_pos h]]
theorem zk5 {c:α→Option β} {b:β} {q:α→Bool}:∀ (l:List α),(∀ x,x∈l→c x=if q x=true then none else some b)→l.findSome? c=if l.all q=true then none else some b
  |[],_=>rfl
  |x :: l,h=>by
    rw [List.findSome?_cons,h x (.head _),List.all_cons]
    cases hq:q x with
    |true=>simp only [if_true,Bool.true_and];exact zk5 l fun y hy=>h y (.tail _ hy)
    |false=>rfl
theorem zpk {L:Nat→Int→Option (β ⊕ Unit)} (l:List α) (b:β) (q:α→Bool) (hn:l.length<big) (hs:∀ m (j:Nat) (h:j<l.length),L (m+1) (j:Int)=if q l[j]=true then L m (IntKind.i64.wrap ((j:Int)+1)) else some (.inl b))
    (he:∀ m,L (m+1) (l.length:Int)=some (.inr ())) {k:Nat} (hk:l.length<k):L k 0=some (if l.all q=true then .inr () else .inl b):=by
  rw [z8j l (fun x=>if q x=true then none else some b) hn (fun m j h=>by rw [hs m j h];cases q l[j]<;>rfl) he hk,zk5 l fun _ _=>rfl];cases l.all q<;>rfl
theorem zq9 {L:Nat→Int→Option (β ⊕ Unit)} (n:Nat) (b:β) (q:Nat→Bool) (hn:n<big) (hs:∀ m (j:Nat),j<n→L (m+1) (j:Int)=if q j=true then L m (IntKind.i64.wrap ((j:Int)+1)) else some (.inl b))
    (he:∀ m,L (m+1) (n:Int)=some (.inr ())) {k:Nat} (hk:n<k):L k 0=some (if (List.range n).all q=true then .inr () else .inl b):=by
  rw [zto n (fun x=>if q x=true then none else some b) hn (fun m j h=>by rw [hs m j h];cases q j<;>rfl) he hk,zk5 _ fun _ _=>rfl];cases (List.range n).all q<;>rfl
end
/-! words -/
end
section
open Go Go.RowKit
theorem own:ownKnob Tryz.prog.godebug=none:=by kernel_rfl
theorem z8n:laidOutB Tryz.prog=true:=by kernel_rfl
def inI (x:Int):Prop:=-9223372036854775808≤x∧x≤9223372036854775807
def inB (x:Int):Prop:=0≤x∧x<256
theorem ydl {x:Int} (h:(Lit.int .i64 x).wf=true):inI x:=by
  simp only [Lit.wf,decide_eq_true_eq,IntKind.wrap,IntKind.bits,IntKind.signed] at h;simp at h;have e1:IntKind.i64.min=-9223372036854775808:=by decide
  have e2:IntKind.i64.max=9223372036854775807:=by decide
  unfold inI;omega
theorem wf_u8 {x:Int} (h:(Lit.int .u8 x).wf=true):inB x:=by
  simp only [Lit.wf,decide_eq_true_eq,IntKind.wrap,IntKind.bits,IntKind.signed] at h;simp at h;have e1:IntKind.u8.min=0:=by decide
  have e2:IntKind.u8.max=255:=by decide
  unfold inB;omega
theorem cf_i {t:T} (h:conf (.int .i64) t):∃ n,t=.int .i64 n∧inI n:=by
  obtain ⟨n,rfl,hw⟩:=h;exact ⟨n,rfl,ydl hw⟩
theorem cf_b {t:T} (h:conf (.int .u8) t):∃ n,t=.int .u8 n∧inB n:=by
  obtain ⟨n,rfl,hw⟩:=h;exact ⟨n,rfl,wf_u8 hw⟩
theorem yf5 {n:Nat} {t:T} (h:conf (.arr .i64 n) t):∃ a:Ar n,t=.agg (a.l.map (T.int .i64))∧∀ y,y∈a.l→inI y:=by
  obtain ⟨a,rfl,hw⟩:=h;exact ⟨a,rfl,fun y hy=>ydl (hw y hy)⟩
theorem zpy {α:Type} {f:α→T} {sh:Sh} {p:α→Prop} (hf:∀ t,conf sh t→∃ x,t=f x∧p x) {t:T} (h:conf (.slice sh) t):∃ l:List α,t=.lst sh.sz (l.map f)∧(l.length<big∧∀ x,x∈l→p x):=by
  obtain ⟨l,rfl,hl,hall⟩:=h;have hm:maxLen<big:=by decide
  have key:∀ l:List T,(∀ x,x∈l→conf sh x)→∃ m:List α,l=m.map f∧∀ x,x∈m→p x:=by
    intro l
    induction l with
    |nil=>intro _;exact ⟨[],rfl,fun x hx=>by simp at hx⟩
    |cons t l ih =>
      intro hc;obtain ⟨x,rfl,hp⟩:=hf t (hc t (by simp));obtain ⟨m,rfl,hm⟩:=ih fun y hy=>hc y (by simp [hy]);refine ⟨x :: m,rfl,fun y hy=>?_⟩;rcases List.mem_cons.1 hy with rfl|hy
      · exact hp
      · exact hm y hy
  obtain ⟨m,rfl,hp⟩:=key l hall;rw [List.length_map] at hl;exact ⟨m,rfl,by omega,hp⟩
def zu5:Sh:=.struct [(.arr .i64 10),(.arr .i64 10)]
def ygp (x:Pat):Prop:=(∀ y,y∈x.mask.l→inI y)∧(∀ y,y∈x.bits.l→inI y)
theorem yf6 {t:T} (h:conf zu5 t):∃ x:Pat,t=ePat x∧ygp x:=by
  obtain ⟨cs,rfl,x0,r0,rfl,h0,x1,r1,rfl,h1,rfl⟩:=h;obtain ⟨a0,rfl,q0⟩:=yf5 h0;obtain ⟨a1,rfl,q1⟩:=yf5 h1;exact ⟨⟨a0,a1⟩,by first | (simp only [ePat,T.cells,Sh.sz,Sh.szL,zu5,List.append_nil,List.cons_append,List.nil_append,List.append_assoc,Nat.add_zero,Nat.reduceAdd];done) | (simp only [ePat,T.cells,Sh.sz,Sh.szL,zu5,List.append_nil,List.cons_append,List.nil_append,List.append_assoc,Nat.add_zero,Nat.reduceAdd];rfl),q0,q1⟩
def z4y:Sh:=.struct [(.int .i64),zu5]
def yii (x:Alt):Prop:=inI x.link∧ygp x.mod
theorem yj8 {t:T} (h:conf z4y t):∃ x:Alt,t=eAlt x∧yii x:=by
  obtain ⟨cs,rfl,x0,r0,rfl,h0,x1,r1,rfl,h1,rfl⟩:=h;obtain ⟨a0,rfl,q0⟩:=cf_i h0;obtain ⟨a1,rfl,q1⟩:=yf6 h1;exact ⟨⟨a0,a1⟩,by first | (simp only [eAlt,ePat,T.cells,Sh.sz,Sh.szL,z4y,zu5,List.append_nil,List.cons_append,List.nil_append,List.append_assoc,Nat.add_zero,Nat.reduceAdd];done) | (simp only [eAlt,ePat,T.cells,Sh.sz,Sh.szL,z4y,zu5,List.append_nil,List.cons_append,List.nil_append,List.append_assoc,Nat.add_zero,Nat.reduceAdd];rfl),q0,q1⟩
def z1s:Sh:=.struct [(.int .i64),zu5,(.int .i64),(.slice (.slice z4y))]
def zwo (x:Rule):Prop:=inI x.prio∧ygp x.mat∧inI x.step∧(x.outs.length<big∧∀ y,y∈x.outs→(y.length<big∧∀ y',y'∈y→yii y'))
theorem yh4 {t:T} (h:conf z1s t):∃ x:Rule,t=zb6 x∧zwo x:=by
  obtain ⟨cs,rfl,x0,r0,rfl,h0,x1,r1,rfl,h1,x2,r2,rfl,h2,x3,r3,rfl,h3,rfl⟩:=h;obtain ⟨a0,rfl,q0⟩:=cf_i h0;obtain ⟨a1,rfl,q1⟩:=yf6 h1;obtain ⟨a2,rfl,q2⟩:=cf_i h2;obtain ⟨a3,rfl,q3⟩:=zpy (fun _ hh=>zpy (fun _ hh=>yj8 hh) hh) h3;exact ⟨⟨a0,a1,a2,a3⟩,by first | (simp only [zb6,ePat,zaj,lAlt,eAlt,T.cells,Sh.sz,Sh.szL,z1s,zu5,z4y,List.append_nil,List.cons_append,List.nil_append,List.append_assoc,Nat.add_zero,Nat.reduceAdd];done) | (simp only [zb6,ePat,zaj,lAlt,eAlt,T.cells,Sh.sz,Sh.szL,z1s,zu5,z4y,List.append_nil,List.cons_append,List.nil_append,List.append_assoc,Nat.add_zero,Nat.reduceAdd];rfl),q0,q1,q2,q3⟩
end
section
open Go Go.RowKit
set_option maxRecDepth 100000
def zcz (k:Nat)  : Nat→Int→(List Int)→Nat→Option (Int×List Int×Nat)
 |0,_,_,_=>none
 |m+1,z,l,n2=>(if 127<z then (if (n2+1)*2≤1000000000 then (if (0:Int)≤7 then zcz k  m (iShr .u64 z 7) (l++[iOr .u8 (IntKind.u8.wrap (z)) 128]) (n2+1) else none) else none) else some (z,l,n2))
def zc5 (k:Nat) (n:Int):Option (List Int):=(if (0:Int)≤1 then (if (0:Int)≤63 then ((zcz k  k (iXor .u64 (iShl .u64 (IntKind.u64.wrap (n)) 1) (IntKind.u64.wrap (iShr .i64 n 63))) [] 0:Option (Int×List Int×Nat)).bind fun s_=>(if (s_.2.2+1)*2≤1000000000 then (if (s_.2.1++[IntKind.u8.wrap (s_.1)]).length=s_.2.2+1 then some (s_.2.1++[IntKind.u8.wrap (s_.1)]) else none) else none)) else none) else none)
set_option maxHeartbeats 8000000 in
theorem zb1 (ax:Axs) (hx:zb7 ax) (k:Nat) (n:Int) (v:List Int) (H:zc5 k n=some v):Pure Tryz.prog (EE ax) [] 79 [.int .i64 n] (byts v):=by
 rw [zc5] at H;refine en [.tmp 2] 27 [0] (hx.no _ (by decide)) (fn79 ax) ?_;intro h hh;repeat apply TW.seq
 refine rk [0] [] hh ?_;clear hh h;intro h hh;obtain ⟨g1,H⟩:=isg H;obtain ⟨g2,H⟩:=isg H;repeat apply TW.seq
 refine rk [3] [] (f3 hh (z8u (k:=.u64) (k':=.u64) (a:=(IntKind.u64.wrap (n))) g1) (zx8 (k:=.i64) (k':=.u64) (a:=n) g2)) ?_;clear hh h;intro h hh;repeat apply TW.seq
 refine rk [3,4] [] hh ?_;clear hh h;intro h hh;refine vk 4 1 [3,4] hh ?_;clear hh h;intro h hh;obtain ⟨s_,H1,H⟩:=zad H;repeat apply TW.seq
 refine cu [3,4] 1 (fun h bs=>(h 3=.int .u64 s_.1∧h 4=.arr 0 1 0 s_.2.2 s_.2.2 s_.2.2)∧bs=[.cells false s_.2.2 (s_.2.1.map (T.int .u8))]) ?_ ?_
 ·skip;repeat apply TW.seq
  apply TW.block;repeat apply TW.seq
  refine TW.loopT [3,4] (fun m h bs=>∃ (z:Int) (l:List Int) (n2:Nat),zcz k  m z l n2=some s_∧(h 3=.int .u64 z∧h 4=.arr 0 1 0 n2 n2 n2)∧bs=[.cells false n2 (l.map (T.int .u8))]) ?_ k _ _ ?_;rotate_left
  ·exact ⟨(iXor .u64 (iShl .u64 (IntKind.u64.wrap (n)) 1) (IntKind.u64.wrap (iShr .i64 n 63))),[],0,H1,kq hh,rfl⟩
  clear hh h H1;rintro m h bs ⟨z,l,n2,H1,hh,rfl⟩;rcases m with _|m
  ·rw [zcz] at H1;cases H1
  rw [zcz] at H1;repeat apply TW.seq
  refine rk [3,4,13] [] hh ?_;clear hh h;intro h hh;rcases isp H1 with ⟨c3,H1⟩|⟨c3,H1⟩;rotate_left
  ·skip;repeat apply TW.seq
   refine cf (f2 hh (decide_eq_false c3)) ?_;refine xk ?_;cases H1;exact ce hh ⟨kq hh,rfl⟩
  repeat apply TW.seq
  refine ct (f2 hh (decide_eq_true c3)) ?_;repeat apply TW.seq
  refine sk ?_;repeat apply TW.seq
  apply TW.block;obtain ⟨g4,H1⟩:=isg H1;repeat apply TW.seq
  refine rg [] [] [.cells false (n2+1) ((l++[iOr .u8 (IntKind.u8.wrap (z)) 128]).map (T.int .u8))] (fun h=>h 3=.int .u64 z∧h 4=.arr 0 1 0 (n2+1) (n2+1) (n2+1)) hh trivial ?_;clear hh h;intro h hh;obtain ⟨g5,H1⟩:=isg H1;repeat apply TW.seq
  refine rk [3,4] [] (f2 hh (zx8 (k:=.u64) (k':=.u64) (a:=z) g5)) ?_;clear hh h;intro h hh;exact rd m hh ⟨(iShr .u64 z 7),(l++[iOr .u8 (IntKind.u8.wrap (z)) 128]),(n2+1),H1,kq hh,rfl⟩
 clear hh h;rintro h bs ⟨hh,rfl⟩;obtain ⟨g6,H⟩:=isg H;repeat apply TW.seq
 refine rg [] [] [.cells false (s_.2.2+1) ((s_.2.1++[IntKind.u8.wrap (s_.1)]).map (T.int .u8))] (fun h=>h 2=.arr 0 1 0 (s_.2.2+1) (s_.2.2+1) (s_.2.2+1)) hh trivial ?_;clear hh h;intro h hh;obtain ⟨g7,H⟩:=isg H;refine TW.freeze 2 (b:=0) (e:=1) (off:=0) (len:=(s_.2.2+1)) (cap:=(s_.2.2+1)) (M:=(s_.2.2+1)) ((s_.2.1++[IntKind.u8.wrap (s_.1)]).map (T.int .u8)) (kq hh) (by rfl) (by omega) (by omega) (by rw [List.drop_zero,Nat.mul_one,zbv (fun _=>rfl),List.take_of_length_le (by rw [List.length_map];omega)]) (fun t ht=>by obtain ⟨x,_,rfl⟩:=List.mem_map.1 ht;first|rfl|exact zd2 _|exact zci _|exact zbz _|exact zbe _ | (rw [List.length_map];rfl)) (by rw [List.length_map];exact g7) (by omega) ?_;rw [zeb _ _ _ (by simp only [lzA]<;>omega)];simp only [scA];refine gk [2] hh ?_;clear hh h;intro h hh;cases H;exact rt hh
def zdv (k:Nat)  : Nat→Int→(List Int)→Nat→Option (Int×List Int×Nat)
 |0,_,_,_=>none
 |m+1,z,l,n2=>(if 127<z then (if (n2+1)*2≤1000000000 then (if (0:Int)≤7 then zdv k  m (iShr .u64 z 7) (l++[iOr .u8 (IntKind.u8.wrap (z)) 128]) (n2+1) else none) else none) else some (z,l,n2))
def zeg (k:Nat) (n:Int):Option (List Int×Nat):=(if (0:Int)≤1 then (if (0:Int)≤63 then ((zdv k  k (iXor .u64 (iShl .u64 (IntKind.u64.wrap (n)) 1) (IntKind.u64.wrap (iShr .i64 n 63))) [] 0:Option (Int×List Int×Nat)).bind fun s_=>(if (s_.2.2+1)*2≤1000000000 then some (s_.2.1++[IntKind.u8.wrap (s_.1)],s_.2.2+1) else none)) else none) else none)
set_option maxHeartbeats 8000000 in
theorem zhb (ax:Axs) (hx:zb7 ax) (k:Nat) (n:Int) (v:List Int×Nat) (H:zeg k n=some v):Call Tryz.prog (EE ax) [] 79 [.int .i64 n] (stL []) (tupT [.arr 0 1 0 v.2 v.2 v.2]) (stL [.cells false v.2 (v.1.map (T.int .u8))]):=by
 rw [zeg] at H;refine enBr [.tmp 2] 27 [0] (hx.no _ (by decide)) (fn79 ax) ?_;intro h hh;repeat apply TW.seq
 refine rk [0] [] hh ?_;clear hh h;intro h hh;obtain ⟨g1,H⟩:=isg H;obtain ⟨g2,H⟩:=isg H;repeat apply TW.seq
 refine rk [3] [] (f3 hh (z8u (k:=.u64) (k':=.u64) (a:=(IntKind.u64.wrap (n))) g1) (zx8 (k:=.i64) (k':=.u64) (a:=n) g2)) ?_;clear hh h;intro h hh;repeat apply TW.seq
 refine rk [3,4] [] hh ?_;clear hh h;intro h hh;refine vk 4 1 [3,4] hh ?_;clear hh h;intro h hh;obtain ⟨s_,H1,H⟩:=zad H;repeat apply TW.seq
 refine cu [3,4] 1 (fun h bs=>(h 3=.int .u64 s_.1∧h 4=.arr 0 1 0 s_.2.2 s_.2.2 s_.2.2)∧bs=[.cells false s_.2.2 (s_.2.1.map (T.int .u8))]) ?_ ?_
 ·skip;repeat apply TW.seq
  apply TW.block;repeat apply TW.seq
  refine TW.loopT [3,4] (fun m h bs=>∃ (z:Int) (l:List Int) (n2:Nat),zdv k  m z l n2=some s_∧(h 3=.int .u64 z∧h 4=.arr 0 1 0 n2 n2 n2)∧bs=[.cells false n2 (l.map (T.int .u8))]) ?_ k _ _ ?_;rotate_left
  ·exact ⟨(iXor .u64 (iShl .u64 (IntKind.u64.wrap (n)) 1) (IntKind.u64.wrap (iShr .i64 n 63))),[],0,H1,kq hh,rfl⟩
  clear hh h H1;rintro m h bs ⟨z,l,n2,H1,hh,rfl⟩;rcases m with _|m
  ·rw [zdv] at H1;cases H1
  rw [zdv] at H1;repeat apply TW.seq
  refine rk [3,4,13] [] hh ?_;clear hh h;intro h hh;rcases isp H1 with ⟨c3,H1⟩|⟨c3,H1⟩;rotate_left
  ·skip;repeat apply TW.seq
   refine cf (f2 hh (decide_eq_false c3)) ?_;refine xk ?_;cases H1;exact ce hh ⟨kq hh,rfl⟩
  repeat apply TW.seq
  refine ct (f2 hh (decide_eq_true c3)) ?_;repeat apply TW.seq
  refine sk ?_;repeat apply TW.seq
  apply TW.block;obtain ⟨g4,H1⟩:=isg H1;repeat apply TW.seq
  refine rg [] [] [.cells false (n2+1) ((l++[iOr .u8 (IntKind.u8.wrap (z)) 128]).map (T.int .u8))] (fun h=>h 3=.int .u64 z∧h 4=.arr 0 1 0 (n2+1) (n2+1) (n2+1)) hh trivial ?_;clear hh h;intro h hh;obtain ⟨g5,H1⟩:=isg H1;repeat apply TW.seq
  refine rk [3,4] [] (f2 hh (zx8 (k:=.u64) (k':=.u64) (a:=z) g5)) ?_;clear hh h;intro h hh;exact rd m hh ⟨(iShr .u64 z 7),(l++[iOr .u8 (IntKind.u8.wrap (z)) 128]),(n2+1),H1,kq hh,rfl⟩
 clear hh h;rintro h bs ⟨hh,rfl⟩;obtain ⟨g6,H⟩:=isg H;repeat apply TW.seq
 refine rg [] [] [.cells false (s_.2.2+1) ((s_.2.1++[IntKind.u8.wrap (s_.1)]).map (T.int .u8))] (fun h=>h 2=.arr 0 1 0 (s_.2.2+1) (s_.2.2+1) (s_.2.2+1)) hh trivial ?_;clear hh h;intro h hh;cases H;exact rtB hh
def za4 (k:Nat) (l:List Int) (one:Int→Option (List Int)):Nat→Int→(List Int)→Nat→Option (List Int×Nat)
 |0,_,_,_=>none
 |m+1,i,l2,n=>(if i<(l.length:Int) then (if (0:Int)≤i∧i<(l.length:Int) then ((one (gx l i)).bind fun r=>(if (n+r.length)*2≤1000000000 then (if r.length=0 then za4 k l one m (IntKind.i64.wrap (i+1)) l2 n else za4 k l one m (IntKind.i64.wrap (i+1)) (l2++r) (n+r.length)) else none)) else none) else some (l2,n))
def zha (k:Nat) (l:List Int) (one:Int→Option (List Int)):Option (List Int):=((zeg k (l.length:Int)).bind fun rb=>((za4 k l one k 0 rb.1 rb.2:Option (List Int×Nat)).bind fun s_=>(if s_.1.length=s_.2 then some s_.1 else none)))
set_option maxHeartbeats 8000000 in
theorem znt (ax:Axs) (hx:zb7 ax) (k:Nat) (l:List Int) (one:Int→Option (List Int)) (v:List Int) (H:zha k l one=some v) (one_f:Nat) (one_c:List T) (one_i:T.idsL 0 one_c=true) (one_h:∀ (y0:Int) (w:List Int),one y0=some w→Pure Tryz.prog (EE ax) [] one_f ([]++[.int .i64 y0]++one_c) (byts w)):Pure Tryz.prog (EE ax) [] 125 [ints l,.fn one_f [] one_c] (byts v):=by
 rw [zha] at H;refine en (ha:=by simp only [zcx,zcw,idsA,idsB,one_i,Bool.and_self]) [.tmp 4] 24 [0,1] (hx.no _ (by decide)) (yhq ax) ?_;intro h hh;repeat apply TW.seq
 refine rk [0,1] [] hh ?_;clear hh h;intro h hh;obtain ⟨rb,e1,H⟩:=zad H;repeat apply TW.seq
 refine rkc [0,1,5] [] [(.arr 0 1 0 rb.2 rb.2 rb.2,stL [.cells false rb.2 (rb.1.map (T.int .u8))])] hh ?_ ?_
 ·exact ⟨car [0] (zhb ax hx k (l.length:Int) rb e1),trivial⟩
 clear hh h;intro h hh;repeat apply TW.seq
 refine rk [1,5,11,12,13] [] hh ?_;clear hh h;intro h hh;obtain ⟨s_,H1,H⟩:=zad H;repeat apply TW.seq
 refine cu [5] 1 (fun h bs=>(h 5=.arr 0 1 0 s_.2 s_.2 s_.2)∧bs=[.cells false s_.2 (s_.1.map (T.int .u8))]) ?_ ?_
 ·skip;repeat apply TW.seq
  apply TW.block;repeat apply TW.seq
  refine TW.loopT [1,5,11,12,13] (fun m h bs=>∃ (i:Int) (l2:List Int) (n:Nat),za4 k l one m i l2 n=some s_∧(h 1=.fn one_f [] one_c∧h 5=.arr 0 1 0 n n n∧h 11=ints l∧h 12=.int .i64 (l.length:Int)∧h 13=.int .i64 i)∧bs=[.cells false n (l2.map (T.int .u8))]) ?_ k _ _ ?_;rotate_left
  ·exact ⟨0,rb.1,rb.2,H1,kq hh,rfl⟩
  clear hh h H1;rintro m h bs ⟨i,l2,n,H1,hh,rfl⟩;rcases m with _|m
  ·rw [za4] at H1;cases H1
  rw [za4] at H1;repeat apply TW.seq
  refine rk [1,5,11,12,13,14] [] hh ?_;clear hh h;intro h hh;rcases isp H1 with ⟨c2,H1⟩|⟨c2,H1⟩;rotate_left
  ·skip;repeat apply TW.seq
   refine cf (f2 hh (decide_eq_false c2)) ?_;refine xk ?_;cases H1;exact ce (f2 hh ((fun m=>zfr (Nat.zero_le m) one_i))) ⟨kq hh,rfl⟩
  repeat apply TW.seq
  refine ct (f2 hh (decide_eq_true c2)) ?_;repeat apply TW.seq
  refine sk ?_;repeat apply TW.seq
  apply TW.block;obtain ⟨g3,H1⟩:=isg H1;repeat apply TW.seq
  refine rk [1,5,7,11,12,13] [] (f2 hh (za7 g3)) ?_;clear hh h;intro h hh;obtain ⟨r,e4,H1⟩:=zad H1;obtain ⟨g5,H1⟩:=isg H1;rcases isp H1 with ⟨c6,H1⟩|⟨c6,H1⟩;rotate_left
  ·skip;repeat apply TW.seq
   refine rg [] [(byts r,stL [.cells false n (l2.map (T.int .u8))])] [.cells false (n+r.length) ((l2++r).map (T.int .u8))] (fun h=>h 1=.fn one_f [] one_c∧h 5=.arr 0 1 0 (n+r.length) (n+r.length) (n+r.length)∧h 11=ints l∧h 12=.int .i64 (l.length:Int)∧h 13=.int .i64 i) hh ?_ ?_
   ·exact ⟨zau.call ((one_h (gx l i) r e4).call _),trivial⟩
   clear hh h;intro h hh;repeat apply TW.seq
   refine rk [1,5,11,12,13] [] hh ?_;clear hh h;intro h hh;exact rd m (f2 hh ((fun m=>zfr (Nat.zero_le m) one_i))) ⟨(IntKind.i64.wrap (i+1)),(l2++r),(n+r.length),H1,kq hh,rfl⟩
  repeat apply TW.seq
  refine rg [] [(byts r,stL [.cells false n (l2.map (T.int .u8))])] [.cells false n (l2.map (T.int .u8))] (fun h=>h 1=.fn one_f [] one_c∧h 5=.arr 0 1 0 n n n∧h 11=ints l∧h 12=.int .i64 (l.length:Int)∧h 13=.int .i64 i) (f2 hh c6) ?_ ?_
  ·exact ⟨zau.call ((one_h (gx l i) r e4).call _),trivial⟩
  clear hh h;intro h hh;repeat apply TW.seq
  refine rk [1,5,11,12,13] [] (f2 hh c6) ?_;clear hh h;intro h hh;exact rd m (f2 hh ((fun m=>zfr (Nat.zero_le m) one_i))) ⟨(IntKind.i64.wrap (i+1)),l2,n,H1,kq hh,rfl⟩
 clear hh h;rintro h bs ⟨hh,rfl⟩;repeat apply TW.seq
 refine rk [4] [] hh ?_;clear hh h;intro h hh;obtain ⟨g7,H⟩:=isg H;refine TW.freeze 4 (b:=0) (e:=1) (off:=0) (len:=s_.2) (cap:=s_.2) (M:=s_.2) (s_.1.map (T.int .u8)) (kq hh) (by rfl) (by omega) (by omega) (by rw [List.drop_zero,Nat.mul_one,zbv (fun _=>rfl),List.take_of_length_le (by rw [List.length_map];omega)]) (fun t ht=>by obtain ⟨x,_,rfl⟩:=List.mem_map.1 ht;first|rfl|exact zd2 _|exact zci _|exact zbz _|exact zbe _ | (rw [List.length_map];rfl)) (by rw [List.length_map];exact g7) (by omega) ?_;rw [zeb _ _ _ (by simp only [lzA]<;>omega)];simp only [scA];refine gk [4] hh ?_;clear hh h;intro h hh;cases H;exact rt hh
def zi7 (k:Nat) (l:List Int):Option (List Int):=((zha k l (fun y=>zc5 k y)).bind fun rint=>some rint)
set_option maxHeartbeats 8000000 in
theorem zmo (ax:Axs) (hx:zb7 ax) (k:Nat) (l:List Int) (v:List Int) (H:zi7 k l=some v):Pure Tryz.prog (EE ax) [] 80 [ints l] (byts v):=by
 rw [zi7] at H;refine en [.tmp 2] 5 [0] (hx.no _ (by decide)) (fn80 ax) ?_;intro h hh;repeat apply TW.seq
 refine rk [0] [] hh ?_;clear hh h;intro h hh;obtain ⟨rint,e1,H⟩:=zad H;repeat apply TW.seq
 refine rkc [2] [] [(byts rint,stL [])] hh ?_ ?_
 ·exact ⟨zau.call ((znt ax hx k l (fun y=>zc5 k y) rint e1 79 [] (by simp only [zcx,zcw,idsA,idsB,Bool.and_self]) (fun y w hw=>by first|exact zb1 ax hx k y w hw|exact (zb1 ax hx k y w hw))).call _),trivial⟩
 clear hh h;intro h hh;cases H;exact rt hh
def zak (k:Nat) (x0:Ar 10):Nat→Int→(List Int)→Nat→Option (List Int×Nat)
 |0,_,_,_=>none
 |m+1,i,l,n=>(if i<(10:Int) then (if (0:Int)≤i∧i<(10:Int) then ((zc5 k (gx x0.l i)).bind fun rInt=>(if (n+rInt.length)*2≤1000000000 then (if rInt.length=0 then zak k x0 m (IntKind.i64.wrap (i+1)) l n else zak k x0 m (IntKind.i64.wrap (i+1)) (l++rInt) (n+rInt.length)) else none)) else none) else some (l,n))
def zem (k:Nat) (x0:Ar 10):Option (List Int×Nat):=((zeg k (10:Int)).bind fun rb=>((zak k x0 k 0 rb.1 rb.2:Option (List Int×Nat)).bind fun s_=>some (s_.1,s_.2)))
set_option maxHeartbeats 8000000 in
theorem zl7 (ax:Axs) (hx:zb7 ax) (k:Nat) (x0:Ar 10) (v:List Int×Nat) (H:zem k x0=some v):Call Tryz.prog (EE ax) [] 125 [.arr 0 1 0 10 10 10,.fn 79 [] []] (stL [.cells true 10 (x0.l.map (T.int .i64))]) (tupT [.arr 1 1 0 v.2 v.2 v.2]) (stL [.cells true 10 (x0.l.map (T.int .i64)),.cells false v.2 (v.1.map (T.int .u8))]):=by
 rw [zem] at H;refine enBr [.tmp 4] 24 [0,1] (hx.no _ (by decide)) (yhq ax) ?_;intro h hh;repeat apply TW.seq
 refine rk [0,1] [] hh ?_;clear hh h;intro h hh;obtain ⟨rb,e1,H⟩:=zad H;repeat apply TW.seq
 refine rkc [0,1,5] [] [(.arr 1 1 0 rb.2 rb.2 rb.2,stL [.cells true 10 (x0.l.map (T.int .i64)),.cells false rb.2 (rb.1.map (T.int .u8))])] hh ?_ ?_
 ·exact ⟨car [1] (zhb ax hx k (10:Int) rb e1),trivial⟩
 clear hh h;intro h hh;repeat apply TW.seq
 refine rk [1,5,11,12,13] [] hh ?_;clear hh h;intro h hh;obtain ⟨s_,H1,H⟩:=zad H;repeat apply TW.seq
 refine cu [5] 2 (fun h bs=>(h 5=.arr 1 1 0 s_.2 s_.2 s_.2)∧bs=[.cells true 10 (x0.l.map (T.int .i64)),.cells false s_.2 (s_.1.map (T.int .u8))]) ?_ ?_
 ·skip;repeat apply TW.seq
  apply TW.block;repeat apply TW.seq
  refine TW.loopT [1,5,11,12,13] (fun m h bs=>∃ (i:Int) (l:List Int) (n:Nat),zak k x0 m i l n=some s_∧(h 1=.fn 79 [] []∧h 5=.arr 1 1 0 n n n∧h 11=.arr 0 1 0 10 10 10∧h 12=.int .i64 (10:Int)∧h 13=.int .i64 i)∧bs=[.cells true 10 (x0.l.map (T.int .i64)),.cells false n (l.map (T.int .u8))]) ?_ k _ _ ?_;rotate_left
  ·exact ⟨0,rb.1,rb.2,H1,kq hh,rfl⟩
  clear hh h H1;rintro m h bs ⟨i,l,n,H1,hh,rfl⟩;rcases m with _|m
  ·rw [zak] at H1;cases H1
  rw [zak] at H1;repeat apply TW.seq
  refine rk [1,5,11,12,13,14] [] hh ?_;clear hh h;intro h hh;rcases isp H1 with ⟨c2,H1⟩|⟨c2,H1⟩;rotate_left
  ·skip;repeat apply TW.seq
   refine cf (f2 hh (decide_eq_false c2)) ?_;refine xk ?_;cases H1;exact ce hh ⟨kq hh,rfl⟩
  repeat apply TW.seq
  refine ct (f2 hh (decide_eq_true c2)) ?_;repeat apply TW.seq
  refine sk ?_;repeat apply TW.seq
  apply TW.block;obtain ⟨g3,H1⟩:=isg H1;repeat apply TW.seq
  refine rk [1,5,7,11,12,13] [] (f2 hh (arIx x0 g3)) ?_;clear hh h;intro h hh;obtain ⟨rInt,e4,H1⟩:=zad H1;obtain ⟨g5,H1⟩:=isg H1;rcases isp H1 with ⟨c6,H1⟩|⟨c6,H1⟩;rotate_left
  ·skip;repeat apply TW.seq
   refine rg [] [(byts rInt,stL [.cells true 10 (x0.l.map (T.int .i64)),.cells false n (l.map (T.int .u8))])] [.cells true 10 (x0.l.map (T.int .i64)),.cells false (n+rInt.length) ((l++rInt).map (T.int .u8))] (fun h=>h 1=.fn 79 [] []∧h 5=.arr 1 1 0 (n+rInt.length) (n+rInt.length) (n+rInt.length)∧h 11=.arr 0 1 0 10 10 10∧h 12=.int .i64 (10:Int)∧h 13=.int .i64 i) hh ?_ ?_
   ·exact ⟨zau.call ((zb1 ax hx k (gx x0.l i) rInt e4 ).call _),trivial⟩
   clear hh h;intro h hh;repeat apply TW.seq
   refine rk [1,5,11,12,13] [] hh ?_;clear hh h;intro h hh;exact rd m hh ⟨(IntKind.i64.wrap (i+1)),(l++rInt),(n+rInt.length),H1,kq hh,rfl⟩
  repeat apply TW.seq
  refine rg [] [(byts rInt,stL [.cells true 10 (x0.l.map (T.int .i64)),.cells false n (l.map (T.int .u8))])] [.cells true 10 (x0.l.map (T.int .i64)),.cells false n (l.map (T.int .u8))] (fun h=>h 1=.fn 79 [] []∧h 5=.arr 1 1 0 n n n∧h 11=.arr 0 1 0 10 10 10∧h 12=.int .i64 (10:Int)∧h 13=.int .i64 i) (f2 hh c6) ?_ ?_
  ·exact ⟨zau.call ((zb1 ax hx k (gx x0.l i) rInt e4 ).call _),trivial⟩
  clear hh h;intro h hh;repeat apply TW.seq
  refine rk [1,5,11,12,13] [] (f2 hh c6) ?_;clear hh h;intro h hh;exact rd m hh ⟨(IntKind.i64.wrap (i+1)),l,n,H1,kq hh,rfl⟩
 clear hh h;rintro h bs ⟨hh,rfl⟩;repeat apply TW.seq
 refine rk [4] [] hh ?_;clear hh h;intro h hh;cases H;exact rtB hh
def zf2 (k:Nat) (x0:Ar 10):Option (List Int×Nat):=((zem k x0).bind fun rb=>some (rb.1,rb.2))
set_option maxHeartbeats 8000000 in
theorem zki (ax:Axs) (hx:zb7 ax) (k:Nat) (x0:Ar 10) (v:List Int×Nat) (H:zf2 k x0=some v):Call Tryz.prog (EE ax) [] 80 [.arr 0 1 0 10 10 10] (stL [.cells true 10 (x0.l.map (T.int .i64))]) (tupT [.arr 1 1 0 v.2 v.2 v.2]) (stL [.cells true 10 (x0.l.map (T.int .i64)),.cells false v.2 (v.1.map (T.int .u8))]):=by
 rw [zf2] at H;refine enBr [.tmp 2] 5 [0] (hx.no _ (by decide)) (fn80 ax) ?_;intro h hh;repeat apply TW.seq
 refine rk [0] [] hh ?_;clear hh h;intro h hh;obtain ⟨rb,e1,H⟩:=zad H;repeat apply TW.seq
 refine rkc [2] [] [(.arr 1 1 0 rb.2 rb.2 rb.2,stL [.cells true 10 (x0.l.map (T.int .i64)),.cells false rb.2 (rb.1.map (T.int .u8))])] hh ?_ ?_
 ·exact ⟨car [0,1] (zl7 ax hx k x0 rb e1),trivial⟩
 clear hh h;intro h hh;cases H;exact rtB hh
def zba (k:Nat) (x0:Ar 10):Nat→Int→(List Int)→Nat→Option (List Int×Nat)
 |0,_,_,_=>none
 |m+1,i,l,n=>(if i<(10:Int) then (if (0:Int)≤i∧i<(10:Int) then ((zc5 k (gx x0.l i)).bind fun rInt=>(if (n+rInt.length)*2≤1000000000 then (if rInt.length=0 then zba k x0 m (IntKind.i64.wrap (i+1)) l n else zba k x0 m (IntKind.i64.wrap (i+1)) (l++rInt) (n+rInt.length)) else none)) else none) else some (l,n))
def zfc (k:Nat) (x0:Ar 10):Option (List Int):=((zeg k (10:Int)).bind fun rb=>((zba k x0 k 0 rb.1 rb.2:Option (List Int×Nat)).bind fun s_=>(if s_.1.length=s_.2 then some s_.1 else none)))
set_option maxHeartbeats 8000000 in
theorem zlt (ax:Axs) (hx:zb7 ax) (k:Nat) (x0:Ar 10) (v:List Int) (H:zfc k x0=some v):Call Tryz.prog (EE ax) [] 125 [.arr 0 1 0 10 10 10,.fn 79 [] []] (stL [.cells true 10 (x0.l.map (T.int .i64))]) (tupT [byts v]) (stL [.cells true 10 (x0.l.map (T.int .i64))]):=by
 rw [zfc] at H;refine enB [.tmp 4] 24 [0,1] (hx.no _ (by decide)) (yhq ax) ?_;intro h hh;repeat apply TW.seq
 refine rk [0,1] [] hh ?_;clear hh h;intro h hh;obtain ⟨rb,e1,H⟩:=zad H;repeat apply TW.seq
 refine rkc [0,1,5] [] [(.arr 1 1 0 rb.2 rb.2 rb.2,stL [.cells true 10 (x0.l.map (T.int .i64)),.cells false rb.2 (rb.1.map (T.int .u8))])] hh ?_ ?_
 ·exact ⟨car [1] (zhb ax hx k (10:Int) rb e1),trivial⟩
 clear hh h;intro h hh;repeat apply TW.seq
 refine rk [1,5,11,12,13] [] hh ?_;clear hh h;intro h hh;obtain ⟨s_,H1,H⟩:=zad H;repeat apply TW.seq
 refine cu [5] 2 (fun h bs=>(h 5=.arr 1 1 0 s_.2 s_.2 s_.2)∧bs=[.cells true 10 (x0.l.map (T.int .i64)),.cells false s_.2 (s_.1.map (T.int .u8))]) ?_ ?_
 ·skip;repeat apply TW.seq
  apply TW.block;repeat apply TW.seq
  refine TW.loopT [1,5,11,12,13] (fun m h bs=>∃ (i:Int) (l:List Int) (n:Nat),zba k x0 m i l n=some s_∧(h 1=.fn 79 [] []∧h 5=.arr 1 1 0 n n n∧h 11=.arr 0 1 0 10 10 10∧h 12=.int .i64 (10:Int)∧h 13=.int .i64 i)∧bs=[.cells true 10 (x0.l.map (T.int .i64)),.cells false n (l.map (T.int .u8))]) ?_ k _ _ ?_;rotate_left
  ·exact ⟨0,rb.1,rb.2,H1,kq hh,rfl⟩
  clear hh h H1;rintro m h bs ⟨i,l,n,H1,hh,rfl⟩;rcases m with _|m
  ·rw [zba] at H1;cases H1
  rw [zba] at H1;repeat apply TW.seq
  refine rk [1,5,11,12,13,14] [] hh ?_;clear hh h;intro h hh;rcases isp H1 with ⟨c2,H1⟩|⟨c2,H1⟩;rotate_left
  ·skip;repeat apply TW.seq
   refine cf (f2 hh (decide_eq_false c2)) ?_;refine xk ?_;cases H1;exact ce hh ⟨kq hh,rfl⟩
  repeat apply TW.seq
  refine ct (f2 hh (decide_eq_true c2)) ?_;repeat apply TW.seq
  refine sk ?_;repeat apply TW.seq
  apply TW.block;obtain ⟨g3,H1⟩:=isg H1;repeat apply TW.seq
  refine rk [1,5,7,11,12,13] [] (f2 hh (arIx x0 g3)) ?_;clear hh h;intro h hh;obtain ⟨rInt,e4,H1⟩:=zad H1;obtain ⟨g5,H1⟩:=isg H1;rcases isp H1 with ⟨c6,H1⟩|⟨c6,H1⟩;rotate_left
  ·skip;repeat apply TW.seq
   refine rg [] [(byts rInt,stL [.cells true 10 (x0.l.map (T.int .i64)),.cells false n (l.map (T.int .u8))])] [.cells true 10 (x0.l.map (T.int .i64)),.cells false (n+rInt.length) ((l++rInt).map (T.int .u8))] (fun h=>h 1=.fn 79 [] []∧h 5=.arr 1 1 0 (n+rInt.length) (n+rInt.length) (n+rInt.length)∧h 11=.arr 0 1 0 10 10 10∧h 12=.int .i64 (10:Int)∧h 13=.int .i64 i) hh ?_ ?_
   ·exact ⟨zau.call ((zb1 ax hx k (gx x0.l i) rInt e4 ).call _),trivial⟩
   clear hh h;intro h hh;repeat apply TW.seq
   refine rk [1,5,11,12,13] [] hh ?_;clear hh h;intro h hh;exact rd m hh ⟨(IntKind.i64.wrap (i+1)),(l++rInt),(n+rInt.length),H1,kq hh,rfl⟩
  repeat apply TW.seq
  refine rg [] [(byts rInt,stL [.cells true 10 (x0.l.map (T.int .i64)),.cells false n (l.map (T.int .u8))])] [.cells true 10 (x0.l.map (T.int .i64)),.cells false n (l.map (T.int .u8))] (fun h=>h 1=.fn 79 [] []∧h 5=.arr 1 1 0 n n n∧h 11=.arr 0 1 0 10 10 10∧h 12=.int .i64 (10:Int)∧h 13=.int .i64 i) (f2 hh c6) ?_ ?_
  ·exact ⟨zau.call ((zb1 ax hx k (gx x0.l i) rInt e4 ).call _),trivial⟩
  clear hh h;intro h hh;repeat apply TW.seq
  refine rk [1,5,11,12,13] [] (f2 hh c6) ?_;clear hh h;intro h hh;exact rd m hh ⟨(IntKind.i64.wrap (i+1)),l,n,H1,kq hh,rfl⟩
 clear hh h;rintro h bs ⟨hh,rfl⟩;repeat apply TW.seq
 refine rk [4] [] hh ?_;clear hh h;intro h hh;obtain ⟨g7,H⟩:=isg H;refine TW.freeze 4 (b:=1) (e:=1) (off:=0) (len:=s_.2) (cap:=s_.2) (M:=s_.2) (s_.1.map (T.int .u8)) (kq hh) (by rfl) (by omega) (by omega) (by rw [List.drop_zero,Nat.mul_one,zbv (fun _=>rfl),List.take_of_length_le (by rw [List.length_map];omega)]) (fun t ht=>by obtain ⟨x,_,rfl⟩:=List.mem_map.1 ht;first|rfl|exact zd2 _|exact zci _|exact zbz _|exact zbe _ | (rw [List.length_map];rfl)) (by rw [List.length_map];exact g7) (by omega) ?_;rw [zeb _ _ _ (by simp only [lzA]<;>omega)];simp only [scA];refine gk [4] hh ?_;clear hh h;intro h hh;cases H;exact rtB hh
def zgc (k:Nat) (x0:Ar 10):Option (List Int):=((zfc k x0).bind fun rb1=>some rb1)
set_option maxHeartbeats 8000000 in
theorem zj3 (ax:Axs) (hx:zb7 ax) (k:Nat) (x0:Ar 10) (v:List Int) (H:zgc k x0=some v):Call Tryz.prog (EE ax) [] 80 [.arr 0 1 0 10 10 10] (stL [.cells true 10 (x0.l.map (T.int .i64))]) (tupT [byts v]) (stL [.cells true 10 (x0.l.map (T.int .i64))]):=by
 rw [zgc] at H;refine enB [.tmp 2] 5 [0] (hx.no _ (by decide)) (fn80 ax) ?_;intro h hh;repeat apply TW.seq
 refine rk [0] [] hh ?_;clear hh h;intro h hh;obtain ⟨rb1,e1,H⟩:=zad H;repeat apply TW.seq
 refine rkc [2] [] [(byts rb1,stL [.cells true 10 (x0.l.map (T.int .i64))])] hh ?_ ?_
 ·exact ⟨ca [0] (zlt ax hx k x0 rb1 e1),trivial⟩
 clear hh h;intro h hh;cases H;exact rtB hh
def zgz (k:Nat) (mask:Ar 10) (set:Ar 10):Option (List Int):=((zf2 k mask).bind fun rb=>((zgc k set).bind fun rb1=>(if (rb.2+rb1.length)*2≤1000000000 then (if rb1.length=0 then (if rb.1.length=rb.2 then some rb.1 else none) else (if (rb.1++rb1).length=rb.2+rb1.length then some (rb.1++rb1) else none)) else none)))
set_option maxHeartbeats 8000000 in
theorem zhc (ax:Axs) (hx:zb7 ax) (k:Nat) (mask:Ar 10) (set:Ar 10) (v:List Int) (H:zgz k mask set=some v):Pure Tryz.prog (EE ax) [] 81 [.agg (mask.l.map (T.int .i64)),.agg (set.l.map (T.int .i64))] (byts v):=by
 rw [zgz] at H;refine en [.tmp 4] 10 [0,1] (hx.no _ (by decide)) (fn81 ax) ?_;intro h hh;repeat apply TW.seq
 refine rk [2,3] [] hh ?_;clear hh h;intro h hh;obtain ⟨rb,e1,H⟩:=zad H;obtain ⟨rb1,e2,H⟩:=zad H;obtain ⟨g3,H⟩:=isg H;rcases isp H with ⟨c4,H⟩|⟨c4,H⟩;rotate_left
 ·skip;repeat apply TW.seq
  refine dg 0 [] [] [(.arr 2 1 0 rb.2 rb.2 rb.2,stL [.cells true 10 (mask.l.map (T.int .i64)),.cells true 10 (set.l.map (T.int .i64)),.cells false rb.2 (rb.1.map (T.int .u8))]),(byts rb1,stL [.cells true 10 (mask.l.map (T.int .i64)),.cells true 10 (set.l.map (T.int .i64)),.cells false rb.2 (rb.1.map (T.int .u8))])] [.cells true 10 (mask.l.map (T.int .i64)),.cells true 10 (set.l.map (T.int .i64)),.cells false (rb.2+rb1.length) ((rb.1++rb1).map (T.int .u8))] (fun h=>h 4=.arr 2 1 0 (rb.2+rb1.length) (rb.2+rb1.length) (rb.2+rb1.length)) hh trivial ?_ ?_
  ·exact ⟨car [0,2] (zki ax hx k mask rb e1),ca [1] (zj3 ax hx k set rb1 e2),trivial⟩
  clear hh h;intro h hh;obtain ⟨g6,H⟩:=isg H;refine TW.freeze 4 (b:=2) (e:=1) (off:=0) (len:=(rb.2+rb1.length)) (cap:=(rb.2+rb1.length)) (M:=(rb.2+rb1.length)) ((rb.1++rb1).map (T.int .u8)) (kq hh) (by rfl) (by omega) (by omega) (by rw [List.drop_zero,Nat.mul_one,zbv (fun _=>rfl),List.take_of_length_le (by rw [List.length_map];omega)]) (fun t ht=>by obtain ⟨x,_,rfl⟩:=List.mem_map.1 ht;first|rfl|exact zd2 _|exact zci _|exact zbz _|exact zbe _ | (rw [List.length_map];rfl)) (by rw [List.length_map];exact g6) (by omega) ?_;rw [zeb _ _ _ (by simp only [lzA]<;>omega)];simp only [scA];refine gk [4] hh ?_;clear hh h;intro h hh;cases H;exact rt hh
 repeat apply TW.seq
 refine dg 0 [] [] [(.arr 2 1 0 rb.2 rb.2 rb.2,stL [.cells true 10 (mask.l.map (T.int .i64)),.cells true 10 (set.l.map (T.int .i64)),.cells false rb.2 (rb.1.map (T.int .u8))]),(byts rb1,stL [.cells true 10 (mask.l.map (T.int .i64)),.cells true 10 (set.l.map (T.int .i64)),.cells false rb.2 (rb.1.map (T.int .u8))])] [.cells true 10 (mask.l.map (T.int .i64)),.cells true 10 (set.l.map (T.int .i64)),.cells false rb.2 (rb.1.map (T.int .u8))] (fun h=>h 4=.arr 2 1 0 rb.2 rb.2 rb.2) (f2 hh c4) trivial ?_ ?_
 ·exact ⟨car [0,2] (zki ax hx k mask rb e1),ca [1] (zj3 ax hx k set rb1 e2),trivial⟩
 clear hh h;intro h hh;obtain ⟨g5,H⟩:=isg H;refine TW.freeze 4 (b:=2) (e:=1) (off:=0) (len:=rb.2) (cap:=rb.2) (M:=rb.2) (rb.1.map (T.int .u8)) (kq hh) (by rfl) (by omega) (by omega) (by rw [List.drop_zero,Nat.mul_one,zbv (fun _=>rfl),List.take_of_length_le (by rw [List.length_map];omega)]) (fun t ht=>by obtain ⟨x,_,rfl⟩:=List.mem_map.1 ht;first|rfl|exact zd2 _|exact zci _|exact zbz _|exact zbe _ | (rw [List.length_map];rfl)) (by rw [List.length_map];exact g5) (by omega) ?_;rw [zeb _ _ _ (by simp only [lzA]<;>omega)];simp only [scA];refine gk [4] hh ?_;clear hh h;intro h hh;cases H;exact rt hh
def za9 (k:Nat) (t:List Rule) (i:Int) (i2:Int):Nat→Int→(List Int)→Nat→Option (List Int×Nat)
 |0,_,_,_=>none
 |m+1,i3,l3,n3=>(if i3<((gx ((gx t i).outs) i2).length:Int) then (if (0:Int)≤i3∧i3<((gx ((gx t i).outs) i2).length:Int) then ((((zc5 k ((gx (gx ((gx t i).outs) i2) i3).link)).bind fun rInt3=>(if (n3+rInt3.length)*2≤1000000000 then (if rInt3.length=0 then some (l3,n3) else some (l3++rInt3,n3+rInt3.length)) else none)):Option (List Int×Nat)).bind fun s_10=>((zgz k (((gx (gx ((gx t i).outs) i2) i3).mod).mask) (((gx (gx ((gx t i).outs) i2) i3).mod).bits)).bind fun rpair2=>(if (s_10.2+rpair2.length)*2≤1000000000 then (if rpair2.length=0 then za9 k t i i2 m (IntKind.i64.wrap (i3+1)) s_10.1 s_10.2 else za9 k t i i2 m (IntKind.i64.wrap (i3+1)) (s_10.1++rpair2) (s_10.2+rpair2.length)) else none))) else none) else some (l3,n3))
def zbo (k:Nat) (t:List Rule) (i:Int):Nat→Int→(List Int)→Nat→Option (List Int×Nat)
 |0,_,_,_=>none
 |m+1,i2,l2,n2=>(if i2<(((gx t i).outs).length:Int) then (((if (0:Int)≤i2∧i2<(((gx t i).outs).length:Int) then ((((zc5 k ((gx ((gx t i).outs) i2).length:Int)).bind fun rInt2=>(if (n2+rInt2.length)*2≤1000000000 then (if rInt2.length=0 then some (l2,n2) else some (l2++rInt2,n2+rInt2.length)) else none)):Option (List Int×Nat)).bind fun s_8=>((za9 k t i i2 k 0 s_8.1 s_8.2:Option (List Int×Nat)).bind fun s_9=>some (s_9.1,s_9.2))) else none):Option (List Int×Nat)).bind fun s_7=>zbo k t i m (IntKind.i64.wrap (i2+1)) s_7.1 s_7.2) else some (l2,n2))
def zbp (k:Nat) (t:List Rule):Nat→Int→(List Int)→Nat→Option (List Int×Nat)
 |0,_,_,_=>none
 |m+1,i,l,n=>(if i<(t.length:Int) then (((if (0:Int)≤i∧i<(t.length:Int) then ((((zi7 k [(gx t i).prio,(gx t i).step]).bind fun rInts=>(if (n+rInts.length)*2≤1000000000 then (if rInts.length=0 then some (l,n) else some (l++rInts,n+rInts.length)) else none)):Option (List Int×Nat)).bind fun s_3=>((((zgz k (((gx t i).mat).mask) (((gx t i).mat).bits)).bind fun rpair=>(if (s_3.2+rpair.length)*2≤1000000000 then (if rpair.length=0 then some (s_3.1,s_3.2) else some (s_3.1++rpair,s_3.2+rpair.length)) else none)):Option (List Int×Nat)).bind fun s_4=>((((zc5 k (((gx t i).outs).length:Int)).bind fun rInt=>(if (s_4.2+rInt.length)*2≤1000000000 then (if rInt.length=0 then some (s_4.1,s_4.2) else some (s_4.1++rInt,s_4.2+rInt.length)) else none)):Option (List Int×Nat)).bind fun s_5=>((zbo k t i k 0 s_5.1 s_5.2:Option (List Int×Nat)).bind fun s_6=>some (s_6.1,s_6.2))))) else none):Option (List Int×Nat)).bind fun s_2=>zbp k t m (IntKind.i64.wrap (i+1)) s_2.1 s_2.2) else some (l,n))
def zeh (k:Nat) (t:List Rule):Option (List Int):=((zeg k (t.length:Int)).bind fun rb=>((zbp k t k 0 rb.1 rb.2:Option (List Int×Nat)).bind fun s_=>(if s_.1.length=s_.2 then some s_.1 else none)))
set_option maxHeartbeats 8000000 in
theorem zj4 (ax:Axs) (hx:zb7 ax) (k:Nat) (t:List Rule) (v:List Int) (H:zeh k t=some v):Pure Tryz.prog (EE ax) [] 40 [zat t] (byts v):=by
 rw [zeh] at H;refine en [.tmp 2] 78 [0] (hx.no _ (by decide)) (fn40 ax) ?_;intro h hh;repeat apply TW.seq
 refine rk [0] [] hh ?_;clear hh h;intro h hh;obtain ⟨rb,e1,H⟩:=zad H;repeat apply TW.seq
 refine rkc [0,3] [] [(.arr 0 1 0 rb.2 rb.2 rb.2,stL [.cells false rb.2 (rb.1.map (T.int .u8))])] hh ?_ ?_
 ·exact ⟨car [0] (zhb ax hx k (t.length:Int) rb e1),trivial⟩
 clear hh h;intro h hh;repeat apply TW.seq
 refine rk [3,13,14,15] [] hh ?_;clear hh h;intro h hh;obtain ⟨s_,H1,H⟩:=zad H;repeat apply TW.seq
 refine cu [3] 1 (fun h bs=>(h 3=.arr 0 1 0 s_.2 s_.2 s_.2)∧bs=[.cells false s_.2 (s_.1.map (T.int .u8))]) ?_ ?_
 ·skip;repeat apply TW.seq
  apply TW.block;repeat apply TW.seq
  refine TW.loopT [3,13,14,15] (fun m h bs=>∃ (i:Int) (l:List Int) (n:Nat),zbp k t m i l n=some s_∧(h 3=.arr 0 1 0 n n n∧h 13=zat t∧h 14=.int .i64 (t.length:Int)∧h 15=.int .i64 i)∧bs=[.cells false n (l.map (T.int .u8))]) ?_ k _ _ ?_;rotate_left
  ·exact ⟨0,rb.1,rb.2,H1,kq hh,rfl⟩
  clear hh h H1;rintro m h bs ⟨i,l,n,H1,hh,rfl⟩;rcases m with _|m
  ·rw [zbp] at H1;cases H1
  rw [zbp] at H1;repeat apply TW.seq
  refine rk [3,13,14,15,16] [] hh ?_;clear hh h;intro h hh;rcases isp H1 with ⟨c2,H1⟩|⟨c2,H1⟩;rotate_left
  ·skip;repeat apply TW.seq
   refine cf (f2 hh (decide_eq_false c2)) ?_;refine xk ?_;cases H1;exact ce hh ⟨kq hh,rfl⟩
  repeat apply TW.seq
  refine ct (f2 hh (decide_eq_true c2)) ?_;repeat apply TW.seq
  refine sk ?_;obtain ⟨s_2,H2,H1⟩:=zad H1;repeat apply TW.seq
  refine cu [3,13,14,15] 1 (fun h bs=>(h 3=.arr 0 1 0 s_2.2 s_2.2 s_2.2∧h 13=zat t∧h 14=.int .i64 (t.length:Int)∧h 15=.int .i64 i)∧bs=[.cells false s_2.2 (s_2.1.map (T.int .u8))]) ?_ ?_
  ·skip;repeat apply TW.seq
   apply TW.block;obtain ⟨g3,H2⟩:=isg H2;repeat apply TW.seq
   refine rk [3,5,13,14,15] [] (f2 hh (za7 g3)) ?_;clear hh h;intro h hh;obtain ⟨s_3,H3,H2⟩:=zad H2;repeat apply TW.seq
   refine cu [3,5,13,14,15] 2 (fun h bs=>(h 3=.arr 0 1 0 s_3.2 s_3.2 s_3.2∧h 5=.ptr 1 0 23∧h 13=zat t∧h 14=.int .i64 (t.length:Int)∧h 15=.int .i64 i)∧bs=[.cells false s_3.2 (s_3.1.map (T.int .u8)),.cells true 23 (T.int .i64 ((gx t i).prio) :: ((((gx t i).mat).mask).l.map (T.int .i64)++((((gx t i).mat).bits).l.map (T.int .i64)++[T.int .i64 ((gx t i).step),zaj ((gx t i).outs)])))]) ?_ ?_
   ·skip;obtain ⟨rInts,e4,H3⟩:=zad H3;obtain ⟨g5,H3⟩:=isg H3;rcases isp H3 with ⟨c6,H3⟩|⟨c6,H3⟩;rotate_left
    ·skip;repeat apply TW.seq
     refine rg [] [(byts rInts,stL [.cells false n (l.map (T.int .u8)),.cells true 23 (T.int .i64 ((gx t i).prio) :: ((((gx t i).mat).mask).l.map (T.int .i64)++((((gx t i).mat).bits).l.map (T.int .i64)++[T.int .i64 ((gx t i).step),zaj ((gx t i).outs)])))])] [.cells false (n+rInts.length) ((l++rInts).map (T.int .u8)),.cells true 23 (T.int .i64 ((gx t i).prio) :: ((((gx t i).mat).mask).l.map (T.int .i64)++((((gx t i).mat).bits).l.map (T.int .i64)++[T.int .i64 ((gx t i).step),zaj ((gx t i).outs)])))] (fun h=>h 3=.arr 0 1 0 (n+rInts.length) (n+rInts.length) (n+rInts.length)∧h 5=.ptr 1 0 23∧h 13=zat t∧h 14=.int .i64 (t.length:Int)∧h 15=.int .i64 i) hh ?_ ?_
     ·exact ⟨zau.call ((zmo ax hx k [(gx t i).prio,(gx t i).step] rInts e4 ).call _),trivial⟩
     clear hh h;intro h hh;cases H3;exact ce hh ⟨kq hh,rfl⟩
    repeat apply TW.seq
    refine rg [] [(byts rInts,stL [.cells false n (l.map (T.int .u8)),.cells true 23 (T.int .i64 ((gx t i).prio) :: ((((gx t i).mat).mask).l.map (T.int .i64)++((((gx t i).mat).bits).l.map (T.int .i64)++[T.int .i64 ((gx t i).step),zaj ((gx t i).outs)])))])] [.cells false n (l.map (T.int .u8)),.cells true 23 (T.int .i64 ((gx t i).prio) :: ((((gx t i).mat).mask).l.map (T.int .i64)++((((gx t i).mat).bits).l.map (T.int .i64)++[T.int .i64 ((gx t i).step),zaj ((gx t i).outs)])))] (fun h=>h 3=.arr 0 1 0 n n n∧h 5=.ptr 1 0 23∧h 13=zat t∧h 14=.int .i64 (t.length:Int)∧h 15=.int .i64 i) (f2 hh c6) ?_ ?_
    ·exact ⟨zau.call ((zmo ax hx k [(gx t i).prio,(gx t i).step] rInts e4 ).call _),trivial⟩
    clear hh h;intro h hh;cases H3;exact ce hh ⟨kq hh,rfl⟩
   clear hh h;rintro h bs ⟨hh,rfl⟩;obtain ⟨s_4,H3,H2⟩:=zad H2;repeat apply TW.seq
   refine cu [3,5,13,14,15] 2 (fun h bs=>(h 3=.arr 0 1 0 s_4.2 s_4.2 s_4.2∧h 5=.ptr 1 0 23∧h 13=zat t∧h 14=.int .i64 (t.length:Int)∧h 15=.int .i64 i)∧bs=[.cells false s_4.2 (s_4.1.map (T.int .u8)),.cells true 23 (T.int .i64 ((gx t i).prio) :: ((((gx t i).mat).mask).l.map (T.int .i64)++((((gx t i).mat).bits).l.map (T.int .i64)++[T.int .i64 ((gx t i).step),zaj ((gx t i).outs)])))]) ?_ ?_
   ·skip;obtain ⟨rpair,e7,H3⟩:=zad H3;obtain ⟨g8,H3⟩:=isg H3;rcases isp H3 with ⟨c9,H3⟩|⟨c9,H3⟩;rotate_left
    ·skip;repeat apply TW.seq
     refine rg [] [(byts rpair,stL [.cells false s_3.2 (s_3.1.map (T.int .u8)),.cells true 23 (T.int .i64 ((gx t i).prio) :: ((((gx t i).mat).mask).l.map (T.int .i64)++((((gx t i).mat).bits).l.map (T.int .i64)++[T.int .i64 ((gx t i).step),zaj ((gx t i).outs)])))])] [.cells false (s_3.2+rpair.length) ((s_3.1++rpair).map (T.int .u8)),.cells true 23 (T.int .i64 ((gx t i).prio) :: ((((gx t i).mat).mask).l.map (T.int .i64)++((((gx t i).mat).bits).l.map (T.int .i64)++[T.int .i64 ((gx t i).step),zaj ((gx t i).outs)])))] (fun h=>h 3=.arr 0 1 0 (s_3.2+rpair.length) (s_3.2+rpair.length) (s_3.2+rpair.length)∧h 5=.ptr 1 0 23∧h 13=zat t∧h 14=.int .i64 (t.length:Int)∧h 15=.int .i64 i) hh ?_ ?_
     ·exact ⟨zau.call ((zhc ax hx k (((gx t i).mat).mask) (((gx t i).mat).bits) rpair e7 ).call _),trivial⟩
     clear hh h;intro h hh;cases H3;exact ce hh ⟨kq hh,rfl⟩
    repeat apply TW.seq
    refine rg [] [(byts rpair,stL [.cells false s_3.2 (s_3.1.map (T.int .u8)),.cells true 23 (T.int .i64 ((gx t i).prio) :: ((((gx t i).mat).mask).l.map (T.int .i64)++((((gx t i).mat).bits).l.map (T.int .i64)++[T.int .i64 ((gx t i).step),zaj ((gx t i).outs)])))])] [.cells false s_3.2 (s_3.1.map (T.int .u8)),.cells true 23 (T.int .i64 ((gx t i).prio) :: ((((gx t i).mat).mask).l.map (T.int .i64)++((((gx t i).mat).bits).l.map (T.int .i64)++[T.int .i64 ((gx t i).step),zaj ((gx t i).outs)])))] (fun h=>h 3=.arr 0 1 0 s_3.2 s_3.2 s_3.2∧h 5=.ptr 1 0 23∧h 13=zat t∧h 14=.int .i64 (t.length:Int)∧h 15=.int .i64 i) (f2 hh c9) ?_ ?_
    ·exact ⟨zau.call ((zhc ax hx k (((gx t i).mat).mask) (((gx t i).mat).bits) rpair e7 ).call _),trivial⟩
    clear hh h;intro h hh;cases H3;exact ce hh ⟨kq hh,rfl⟩
   clear hh h;rintro h bs ⟨hh,rfl⟩;obtain ⟨s_5,H3,H2⟩:=zad H2;repeat apply TW.seq
   refine cu [3,5,13,14,15] 2 (fun h bs=>(h 3=.arr 0 1 0 s_5.2 s_5.2 s_5.2∧h 5=.ptr 1 0 23∧h 13=zat t∧h 14=.int .i64 (t.length:Int)∧h 15=.int .i64 i)∧bs=[.cells false s_5.2 (s_5.1.map (T.int .u8)),.cells true 23 (T.int .i64 ((gx t i).prio) :: ((((gx t i).mat).mask).l.map (T.int .i64)++((((gx t i).mat).bits).l.map (T.int .i64)++[T.int .i64 ((gx t i).step),zaj ((gx t i).outs)])))]) ?_ ?_
   ·skip;obtain ⟨rInt,e10,H3⟩:=zad H3;obtain ⟨g11,H3⟩:=isg H3;rcases isp H3 with ⟨c12,H3⟩|⟨c12,H3⟩;rotate_left
    ·skip;repeat apply TW.seq
     refine rg [] [(byts rInt,stL [.cells false s_4.2 (s_4.1.map (T.int .u8)),.cells true 23 (T.int .i64 ((gx t i).prio) :: ((((gx t i).mat).mask).l.map (T.int .i64)++((((gx t i).mat).bits).l.map (T.int .i64)++[T.int .i64 ((gx t i).step),zaj ((gx t i).outs)])))])] [.cells false (s_4.2+rInt.length) ((s_4.1++rInt).map (T.int .u8)),.cells true 23 (T.int .i64 ((gx t i).prio) :: ((((gx t i).mat).mask).l.map (T.int .i64)++((((gx t i).mat).bits).l.map (T.int .i64)++[T.int .i64 ((gx t i).step),zaj ((gx t i).outs)])))] (fun h=>h 3=.arr 0 1 0 (s_4.2+rInt.length) (s_4.2+rInt.length) (s_4.2+rInt.length)∧h 5=.ptr 1 0 23∧h 13=zat t∧h 14=.int .i64 (t.length:Int)∧h 15=.int .i64 i) hh ?_ ?_
     ·exact ⟨zau.call ((zb1 ax hx k (((gx t i).outs).length:Int) rInt e10 ).call _),trivial⟩
     clear hh h;intro h hh;cases H3;exact ce hh ⟨kq hh,rfl⟩
    repeat apply TW.seq
    refine rg [] [(byts rInt,stL [.cells false s_4.2 (s_4.1.map (T.int .u8)),.cells true 23 (T.int .i64 ((gx t i).prio) :: ((((gx t i).mat).mask).l.map (T.int .i64)++((((gx t i).mat).bits).l.map (T.int .i64)++[T.int .i64 ((gx t i).step),zaj ((gx t i).outs)])))])] [.cells false s_4.2 (s_4.1.map (T.int .u8)),.cells true 23 (T.int .i64 ((gx t i).prio) :: ((((gx t i).mat).mask).l.map (T.int .i64)++((((gx t i).mat).bits).l.map (T.int .i64)++[T.int .i64 ((gx t i).step),zaj ((gx t i).outs)])))] (fun h=>h 3=.arr 0 1 0 s_4.2 s_4.2 s_4.2∧h 5=.ptr 1 0 23∧h 13=zat t∧h 14=.int .i64 (t.length:Int)∧h 15=.int .i64 i) (f2 hh c12) ?_ ?_
    ·exact ⟨zau.call ((zb1 ax hx k (((gx t i).outs).length:Int) rInt e10 ).call _),trivial⟩
    clear hh h;intro h hh;cases H3;exact ce hh ⟨kq hh,rfl⟩
   clear hh h;rintro h bs ⟨hh,rfl⟩;repeat apply TW.seq
   refine rk [3,13,14,15,43,44,45] [] hh ?_;clear hh h;intro h hh;obtain ⟨s_6,H3,H2⟩:=zad H2;repeat apply TW.seq
   refine cu [3,13,14,15] 2 (fun h bs=>(h 3=.arr 0 1 0 s_6.2 s_6.2 s_6.2∧h 13=zat t∧h 14=.int .i64 (t.length:Int)∧h 15=.int .i64 i)∧bs=[.cells false s_6.2 (s_6.1.map (T.int .u8)),.cells true 23 (T.int .i64 ((gx t i).prio) :: ((((gx t i).mat).mask).l.map (T.int .i64)++((((gx t i).mat).bits).l.map (T.int .i64)++[T.int .i64 ((gx t i).step),zaj ((gx t i).outs)])))]) ?_ ?_
   ·skip;repeat apply TW.seq
    apply TW.block;repeat apply TW.seq
    refine TW.loopT [3,13,14,15,43,44,45] (fun m h bs=>∃ (i2:Int) (l2:List Int) (n2:Nat),zbo k t i m i2 l2 n2=some s_6∧(h 3=.arr 0 1 0 n2 n2 n2∧h 13=zat t∧h 14=.int .i64 (t.length:Int)∧h 15=.int .i64 i∧h 43=zaj ((gx t i).outs)∧h 44=.int .i64 (((gx t i).outs).length:Int)∧h 45=.int .i64 i2)∧bs=[.cells false n2 (l2.map (T.int .u8)),.cells true 23 (T.int .i64 ((gx t i).prio) :: ((((gx t i).mat).mask).l.map (T.int .i64)++((((gx t i).mat).bits).l.map (T.int .i64)++[T.int .i64 ((gx t i).step),zaj ((gx t i).outs)])))]) ?_ k _ _ ?_;rotate_left
    ·exact ⟨0,s_5.1,s_5.2,H3,kq hh,rfl⟩
    clear hh h H3;rintro m h bs ⟨i2,l2,n2,H3,hh,rfl⟩;rcases m with _|m
    ·rw [zbo] at H3;cases H3
    rw [zbo] at H3;repeat apply TW.seq
    refine rk [3,13,14,15,43,44,45,46] [] hh ?_;clear hh h;intro h hh;rcases isp H3 with ⟨c13,H3⟩|⟨c13,H3⟩;rotate_left
    ·skip;repeat apply TW.seq
     refine cf (f2 hh (decide_eq_false c13)) ?_;refine xk ?_;cases H3;exact ce hh ⟨kq hh,rfl⟩
    repeat apply TW.seq
    refine ct (f2 hh (decide_eq_true c13)) ?_;repeat apply TW.seq
    refine sk ?_;obtain ⟨s_7,H4,H3⟩:=zad H3;repeat apply TW.seq
    refine cu [3,13,14,15,43,44,45] 2 (fun h bs=>(h 3=.arr 0 1 0 s_7.2 s_7.2 s_7.2∧h 13=zat t∧h 14=.int .i64 (t.length:Int)∧h 15=.int .i64 i∧h 43=zaj ((gx t i).outs)∧h 44=.int .i64 (((gx t i).outs).length:Int)∧h 45=.int .i64 i2)∧bs=[.cells false s_7.2 (s_7.1.map (T.int .u8)),.cells true 23 (T.int .i64 ((gx t i).prio) :: ((((gx t i).mat).mask).l.map (T.int .i64)++((((gx t i).mat).bits).l.map (T.int .i64)++[T.int .i64 ((gx t i).step),zaj ((gx t i).outs)])))]) ?_ ?_
    ·skip;repeat apply TW.seq
     apply TW.block;obtain ⟨g14,H4⟩:=isg H4;repeat apply TW.seq
     refine rk [3,7,13,14,15,43,44,45] [] (f2 hh (za7 g14)) ?_;clear hh h;intro h hh;obtain ⟨s_8,H5,H4⟩:=zad H4;repeat apply TW.seq
     refine cu [3,7,13,14,15,43,44,45] 2 (fun h bs=>(h 3=.arr 0 1 0 s_8.2 s_8.2 s_8.2∧h 7=lAlt (gx ((gx t i).outs) i2)∧h 13=zat t∧h 14=.int .i64 (t.length:Int)∧h 15=.int .i64 i∧h 43=zaj ((gx t i).outs)∧h 44=.int .i64 (((gx t i).outs).length:Int)∧h 45=.int .i64 i2)∧bs=[.cells false s_8.2 (s_8.1.map (T.int .u8)),.cells true 23 (T.int .i64 ((gx t i).prio) :: ((((gx t i).mat).mask).l.map (T.int .i64)++((((gx t i).mat).bits).l.map (T.int .i64)++[T.int .i64 ((gx t i).step),zaj ((gx t i).outs)])))]) ?_ ?_
     ·skip;obtain ⟨rInt2,e15,H5⟩:=zad H5;obtain ⟨g16,H5⟩:=isg H5;rcases isp H5 with ⟨c17,H5⟩|⟨c17,H5⟩;rotate_left
      ·skip;repeat apply TW.seq
       refine rg [] [(byts rInt2,stL [.cells false n2 (l2.map (T.int .u8)),.cells true 23 (T.int .i64 ((gx t i).prio) :: ((((gx t i).mat).mask).l.map (T.int .i64)++((((gx t i).mat).bits).l.map (T.int .i64)++[T.int .i64 ((gx t i).step),zaj ((gx t i).outs)])))])] [.cells false (n2+rInt2.length) ((l2++rInt2).map (T.int .u8)),.cells true 23 (T.int .i64 ((gx t i).prio) :: ((((gx t i).mat).mask).l.map (T.int .i64)++((((gx t i).mat).bits).l.map (T.int .i64)++[T.int .i64 ((gx t i).step),zaj ((gx t i).outs)])))] (fun h=>h 3=.arr 0 1 0 (n2+rInt2.length) (n2+rInt2.length) (n2+rInt2.length)∧h 7=lAlt (gx ((gx t i).outs) i2)∧h 13=zat t∧h 14=.int .i64 (t.length:Int)∧h 15=.int .i64 i∧h 43=zaj ((gx t i).outs)∧h 44=.int .i64 (((gx t i).outs).length:Int)∧h 45=.int .i64 i2) hh ?_ ?_
       ·exact ⟨zau.call ((zb1 ax hx k ((gx ((gx t i).outs) i2).length:Int) rInt2 e15 ).call _),trivial⟩
       clear hh h;intro h hh;cases H5;exact ce hh ⟨kq hh,rfl⟩
      repeat apply TW.seq
      refine rg [] [(byts rInt2,stL [.cells false n2 (l2.map (T.int .u8)),.cells true 23 (T.int .i64 ((gx t i).prio) :: ((((gx t i).mat).mask).l.map (T.int .i64)++((((gx t i).mat).bits).l.map (T.int .i64)++[T.int .i64 ((gx t i).step),zaj ((gx t i).outs)])))])] [.cells false n2 (l2.map (T.int .u8)),.cells true 23 (T.int .i64 ((gx t i).prio) :: ((((gx t i).mat).mask).l.map (T.int .i64)++((((gx t i).mat).bits).l.map (T.int .i64)++[T.int .i64 ((gx t i).step),zaj ((gx t i).outs)])))] (fun h=>h 3=.arr 0 1 0 n2 n2 n2∧h 7=lAlt (gx ((gx t i).outs) i2)∧h 13=zat t∧h 14=.int .i64 (t.length:Int)∧h 15=.int .i64 i∧h 43=zaj ((gx t i).outs)∧h 44=.int .i64 (((gx t i).outs).length:Int)∧h 45=.int .i64 i2) (f2 hh c17) ?_ ?_
      ·exact ⟨zau.call ((zb1 ax hx k ((gx ((gx t i).outs) i2).length:Int) rInt2 e15 ).call _),trivial⟩
      clear hh h;intro h hh;cases H5;exact ce hh ⟨kq hh,rfl⟩
     clear hh h;rintro h bs ⟨hh,rfl⟩;repeat apply TW.seq
     refine rk [3,13,14,15,43,44,45,54,55,56] [] hh ?_;clear hh h;intro h hh;obtain ⟨s_9,H5,H4⟩:=zad H4;repeat apply TW.seq
     refine cu [3,13,14,15,43,44,45] 2 (fun h bs=>(h 3=.arr 0 1 0 s_9.2 s_9.2 s_9.2∧h 13=zat t∧h 14=.int .i64 (t.length:Int)∧h 15=.int .i64 i∧h 43=zaj ((gx t i).outs)∧h 44=.int .i64 (((gx t i).outs).length:Int)∧h 45=.int .i64 i2)∧bs=[.cells false s_9.2 (s_9.1.map (T.int .u8)),.cells true 23 (T.int .i64 ((gx t i).prio) :: ((((gx t i).mat).mask).l.map (T.int .i64)++((((gx t i).mat).bits).l.map (T.int .i64)++[T.int .i64 ((gx t i).step),zaj ((gx t i).outs)])))]) ?_ ?_
     ·skip;repeat apply TW.seq
      apply TW.block;repeat apply TW.seq
      refine TW.loopT [3,13,14,15,43,44,45,54,55,56] (fun m h bs=>∃ (i3:Int) (l3:List Int) (n3:Nat),za9 k t i i2 m i3 l3 n3=some s_9∧(h 3=.arr 0 1 0 n3 n3 n3∧h 13=zat t∧h 14=.int .i64 (t.length:Int)∧h 15=.int .i64 i∧h 43=zaj ((gx t i).outs)∧h 44=.int .i64 (((gx t i).outs).length:Int)∧h 45=.int .i64 i2∧h 54=lAlt (gx ((gx t i).outs) i2)∧h 55=.int .i64 ((gx ((gx t i).outs) i2).length:Int)∧h 56=.int .i64 i3)∧bs=[.cells false n3 (l3.map (T.int .u8)),.cells true 23 (T.int .i64 ((gx t i).prio) :: ((((gx t i).mat).mask).l.map (T.int .i64)++((((gx t i).mat).bits).l.map (T.int .i64)++[T.int .i64 ((gx t i).step),zaj ((gx t i).outs)])))]) ?_ k _ _ ?_;rotate_left
      ·exact ⟨0,s_8.1,s_8.2,H5,kq hh,rfl⟩
      clear hh h H5;rintro m h bs ⟨i3,l3,n3,H5,hh,rfl⟩;rcases m with _|m
      ·rw [za9] at H5;cases H5
      rw [za9] at H5;repeat apply TW.seq
      refine rk [3,13,14,15,43,44,45,54,55,56,57] [] hh ?_;clear hh h;intro h hh;rcases isp H5 with ⟨c18,H5⟩|⟨c18,H5⟩;rotate_left
      ·skip;repeat apply TW.seq
       refine cf (f2 hh (decide_eq_false c18)) ?_;refine xk ?_;cases H5;exact ce hh ⟨kq hh,rfl⟩
      repeat apply TW.seq
      refine ct (f2 hh (decide_eq_true c18)) ?_;repeat apply TW.seq
      refine sk ?_;repeat apply TW.seq
      apply TW.block;obtain ⟨g19,H5⟩:=isg H5;repeat apply TW.seq
      refine rk [3,9,13,14,15,43,44,45,54,55,56] [] (f2 hh (za7 g19)) ?_;clear hh h;intro h hh;obtain ⟨s_10,H6,H5⟩:=zad H5;repeat apply TW.seq
      refine cu [3,9,13,14,15,43,44,45,54,55,56] 3 (fun h bs=>(h 3=.arr 0 1 0 s_10.2 s_10.2 s_10.2∧h 9=.ptr 2 0 21∧h 13=zat t∧h 14=.int .i64 (t.length:Int)∧h 15=.int .i64 i∧h 43=zaj ((gx t i).outs)∧h 44=.int .i64 (((gx t i).outs).length:Int)∧h 45=.int .i64 i2∧h 54=lAlt (gx ((gx t i).outs) i2)∧h 55=.int .i64 ((gx ((gx t i).outs) i2).length:Int)∧h 56=.int .i64 i3)∧bs=[.cells false s_10.2 (s_10.1.map (T.int .u8)),.cells true 23 (T.int .i64 ((gx t i).prio) :: ((((gx t i).mat).mask).l.map (T.int .i64)++((((gx t i).mat).bits).l.map (T.int .i64)++[T.int .i64 ((gx t i).step),zaj ((gx t i).outs)]))),.cells true 21 (T.int .i64 ((gx (gx ((gx t i).outs) i2) i3).link) :: ((((gx (gx ((gx t i).outs) i2) i3).mod).mask).l.map (T.int .i64)++((((gx (gx ((gx t i).outs) i2) i3).mod).bits).l.map (T.int .i64))))]) ?_ ?_
      ·skip;obtain ⟨rInt3,e20,H6⟩:=zad H6;obtain ⟨g21,H6⟩:=isg H6;rcases isp H6 with ⟨c22,H6⟩|⟨c22,H6⟩;rotate_left
       ·skip;repeat apply TW.seq
        refine rg [] [(byts rInt3,stL [.cells false n3 (l3.map (T.int .u8)),.cells true 23 (T.int .i64 ((gx t i).prio) :: ((((gx t i).mat).mask).l.map (T.int .i64)++((((gx t i).mat).bits).l.map (T.int .i64)++[T.int .i64 ((gx t i).step),zaj ((gx t i).outs)]))),.cells true 21 (T.int .i64 ((gx (gx ((gx t i).outs) i2) i3).link) :: ((((gx (gx ((gx t i).outs) i2) i3).mod).mask).l.map (T.int .i64)++((((gx (gx ((gx t i).outs) i2) i3).mod).bits).l.map (T.int .i64))))])] [.cells false (n3+rInt3.length) ((l3++rInt3).map (T.int .u8)),.cells true 23 (T.int .i64 ((gx t i).prio) :: ((((gx t i).mat).mask).l.map (T.int .i64)++((((gx t i).mat).bits).l.map (T.int .i64)++[T.int .i64 ((gx t i).step),zaj ((gx t i).outs)]))),.cells true 21 (T.int .i64 ((gx (gx ((gx t i).outs) i2) i3).link) :: ((((gx (gx ((gx t i).outs) i2) i3).mod).mask).l.map (T.int .i64)++((((gx (gx ((gx t i).outs) i2) i3).mod).bits).l.map (T.int .i64))))] (fun h=>h 3=.arr 0 1 0 (n3+rInt3.length) (n3+rInt3.length) (n3+rInt3.length)∧h 9=.ptr 2 0 21∧h 13=zat t∧h 14=.int .i64 (t.length:Int)∧h 15=.int .i64 i∧h 43=zaj ((gx t i).outs)∧h 44=.int .i64 (((gx t i).outs).length:Int)∧h 45=.int .i64 i2∧h 54=lAlt (gx ((gx t i).outs) i2)∧h 55=.int .i64 ((gx ((gx t i).outs) i2).length:Int)∧h 56=.int .i64 i3) hh ?_ ?_
        ·exact ⟨zau.call ((zb1 ax hx k ((gx (gx ((gx t i).outs) i2) i3).link) rInt3 e20 ).call _),trivial⟩
        clear hh h;intro h hh;cases H6;exact ce hh ⟨kq hh,rfl⟩
       repeat apply TW.seq
       refine rg [] [(byts rInt3,stL [.cells false n3 (l3.map (T.int .u8)),.cells true 23 (T.int .i64 ((gx t i).prio) :: ((((gx t i).mat).mask).l.map (T.int .i64)++((((gx t i).mat).bits).l.map (T.int .i64)++[T.int .i64 ((gx t i).step),zaj ((gx t i).outs)]))),.cells true 21 (T.int .i64 ((gx (gx ((gx t i).outs) i2) i3).link) :: ((((gx (gx ((gx t i).outs) i2) i3).mod).mask).l.map (T.int .i64)++((((gx (gx ((gx t i).outs) i2) i3).mod).bits).l.map (T.int .i64))))])] [.cells false n3 (l3.map (T.int .u8)),.cells true 23 (T.int .i64 ((gx t i).prio) :: ((((gx t i).mat).mask).l.map (T.int .i64)++((((gx t i).mat).bits).l.map (T.int .i64)++[T.int .i64 ((gx t i).step),zaj ((gx t i).outs)]))),.cells true 21 (T.int .i64 ((gx (gx ((gx t i).outs) i2) i3).link) :: ((((gx (gx ((gx t i).outs) i2) i3).mod).mask).l.map (T.int .i64)++((((gx (gx ((gx t i).outs) i2) i3).mod).bits).l.map (T.int .i64))))] (fun h=>h 3=.arr 0 1 0 n3 n3 n3∧h 9=.ptr 2 0 21∧h 13=zat t∧h 14=.int .i64 (t.length:Int)∧h 15=.int .i64 i∧h 43=zaj ((gx t i).outs)∧h 44=.int .i64 (((gx t i).outs).length:Int)∧h 45=.int .i64 i2∧h 54=lAlt (gx ((gx t i).outs) i2)∧h 55=.int .i64 ((gx ((gx t i).outs) i2).length:Int)∧h 56=.int .i64 i3) (f2 hh c22) ?_ ?_
       ·exact ⟨zau.call ((zb1 ax hx k ((gx (gx ((gx t i).outs) i2) i3).link) rInt3 e20 ).call _),trivial⟩
       clear hh h;intro h hh;cases H6;exact ce hh ⟨kq hh,rfl⟩
      clear hh h;rintro h bs ⟨hh,rfl⟩;obtain ⟨rpair2,e23,H5⟩:=zad H5;obtain ⟨g24,H5⟩:=isg H5;rcases isp H5 with ⟨c25,H5⟩|⟨c25,H5⟩;rotate_left
      ·skip;repeat apply TW.seq
       refine rg [] [(byts rpair2,stL [.cells false s_10.2 (s_10.1.map (T.int .u8)),.cells true 23 (T.int .i64 ((gx t i).prio) :: ((((gx t i).mat).mask).l.map (T.int .i64)++((((gx t i).mat).bits).l.map (T.int .i64)++[T.int .i64 ((gx t i).step),zaj ((gx t i).outs)]))),.cells true 21 (T.int .i64 ((gx (gx ((gx t i).outs) i2) i3).link) :: ((((gx (gx ((gx t i).outs) i2) i3).mod).mask).l.map (T.int .i64)++((((gx (gx ((gx t i).outs) i2) i3).mod).bits).l.map (T.int .i64))))])] [.cells false (s_10.2+rpair2.length) ((s_10.1++rpair2).map (T.int .u8)),.cells true 23 (T.int .i64 ((gx t i).prio) :: ((((gx t i).mat).mask).l.map (T.int .i64)++((((gx t i).mat).bits).l.map (T.int .i64)++[T.int .i64 ((gx t i).step),zaj ((gx t i).outs)]))),.cells true 21 (T.int .i64 ((gx (gx ((gx t i).outs) i2) i3).link) :: ((((gx (gx ((gx t i).outs) i2) i3).mod).mask).l.map (T.int .i64)++((((gx (gx ((gx t i).outs) i2) i3).mod).bits).l.map (T.int .i64))))] (fun h=>h 3=.arr 0 1 0 (s_10.2+rpair2.length) (s_10.2+rpair2.length) (s_10.2+rpair2.length)∧h 13=zat t∧h 14=.int .i64 (t.length:Int)∧h 15=.int .i64 i∧h 43=zaj ((gx t i).outs)∧h 44=.int .i64 (((gx t i).outs).length:Int)∧h 45=.int .i64 i2∧h 54=lAlt (gx ((gx t i).outs) i2)∧h 55=.int .i64 ((gx ((gx t i).outs) i2).length:Int)∧h 56=.int .i64 i3) hh ?_ ?_
       ·exact ⟨zau.call ((zhc ax hx k (((gx (gx ((gx t i).outs) i2) i3).mod).mask) (((gx (gx ((gx t i).outs) i2) i3).mod).bits) rpair2 e23 ).call _),trivial⟩
       clear hh h;intro h hh;repeat apply TW.seq
       refine rk [3,13,14,15,43,44,45,54,55,56] [] hh ?_;clear hh h;intro h hh;exact rd m hh ⟨(IntKind.i64.wrap (i3+1)),(s_10.1++rpair2),(s_10.2+rpair2.length),H5,kq hh,rfl⟩
      repeat apply TW.seq
      refine rg [] [(byts rpair2,stL [.cells false s_10.2 (s_10.1.map (T.int .u8)),.cells true 23 (T.int .i64 ((gx t i).prio) :: ((((gx t i).mat).mask).l.map (T.int .i64)++((((gx t i).mat).bits).l.map (T.int .i64)++[T.int .i64 ((gx t i).step),zaj ((gx t i).outs)]))),.cells true 21 (T.int .i64 ((gx (gx ((gx t i).outs) i2) i3).link) :: ((((gx (gx ((gx t i).outs) i2) i3).mod).mask).l.map (T.int .i64)++((((gx (gx ((gx t i).outs) i2) i3).mod).bits).l.map (T.int .i64))))])] [.cells false s_10.2 (s_10.1.map (T.int .u8)),.cells true 23 (T.int .i64 ((gx t i).prio) :: ((((gx t i).mat).mask).l.map (T.int .i64)++((((gx t i).mat).bits).l.map (T.int .i64)++[T.int .i64 ((gx t i).step),zaj ((gx t i).outs)]))),.cells true 21 (T.int .i64 ((gx (gx ((gx t i).outs) i2) i3).link) :: ((((gx (gx ((gx t i).outs) i2) i3).mod).mask).l.map (T.int .i64)++((((gx (gx ((gx t i).outs) i2) i3).mod).bits).l.map (T.int .i64))))] (fun h=>h 3=.arr 0 1 0 s_10.2 s_10.2 s_10.2∧h 13=zat t∧h 14=.int .i64 (t.length:Int)∧h 15=.int .i64 i∧h 43=zaj ((gx t i).outs)∧h 44=.int .i64 (((gx t i).outs).length:Int)∧h 45=.int .i64 i2∧h 54=lAlt (gx ((gx t i).outs) i2)∧h 55=.int .i64 ((gx ((gx t i).outs) i2).length:Int)∧h 56=.int .i64 i3) (f2 hh c25) ?_ ?_
      ·exact ⟨zau.call ((zhc ax hx k (((gx (gx ((gx t i).outs) i2) i3).mod).mask) (((gx (gx ((gx t i).outs) i2) i3).mod).bits) rpair2 e23 ).call _),trivial⟩
      clear hh h;intro h hh;repeat apply TW.seq
      refine rk [3,13,14,15,43,44,45,54,55,56] [] (f2 hh c25) ?_;clear hh h;intro h hh;exact rd m hh ⟨(IntKind.i64.wrap (i3+1)),s_10.1,s_10.2,H5,kq hh,rfl⟩
     clear hh h;rintro h bs ⟨hh,rfl⟩;cases H4;exact ce hh ⟨kq hh,rfl⟩
    clear hh h;rintro h bs ⟨hh,rfl⟩;repeat apply TW.seq
    refine rk [3,13,14,15,43,44,45] [] hh ?_;clear hh h;intro h hh;exact rd m hh ⟨(IntKind.i64.wrap (i2+1)),s_7.1,s_7.2,H3,kq hh,rfl⟩
   clear hh h;rintro h bs ⟨hh,rfl⟩;cases H2;exact ce hh ⟨kq hh,rfl⟩
  clear hh h;rintro h bs ⟨hh,rfl⟩;repeat apply TW.seq
  refine rk [3,13,14,15] [] hh ?_;clear hh h;intro h hh;exact rd m hh ⟨(IntKind.i64.wrap (i+1)),s_2.1,s_2.2,H1,kq hh,rfl⟩
 clear hh h;rintro h bs ⟨hh,rfl⟩;repeat apply TW.seq
 refine rk [2] [] hh ?_;clear hh h;intro h hh;obtain ⟨g26,H⟩:=isg H;refine TW.freeze 2 (b:=0) (e:=1) (off:=0) (len:=s_.2) (cap:=s_.2) (M:=s_.2) (s_.1.map (T.int .u8)) (kq hh) (by rfl) (by omega) (by omega) (by rw [List.drop_zero,Nat.mul_one,zbv (fun _=>rfl),List.take_of_length_le (by rw [List.length_map];omega)]) (fun t ht=>by obtain ⟨x,_,rfl⟩:=List.mem_map.1 ht;first|rfl|exact zd2 _|exact zci _|exact zbz _|exact zbe _ | (rw [List.length_map];rfl)) (by rw [List.length_map];exact g26) (by omega) ?_;rw [zeb _ _ _ (by simp only [lzA]<;>omega)];simp only [scA];refine gk [2] hh ?_;clear hh h;intro h hh;cases H;exact rt hh
def zgg (k:Nat) (a:Int):Option Int:=some 0
set_option maxHeartbeats 8000000 in
theorem zmp (ax:Axs) (hx:zb7 ax) (k:Nat) (a:Int) (v:Int) (H:zgg k a=some v):Pure Tryz.prog (EE ax) [] 82 [.int .i64 a] (.int .i64 v):=by
 rw [zgg] at H;refine en [.tmp 2] 3 [] (hx.no _ (by decide)) (fn82 ax) ?_;intro h hh;repeat apply TW.seq
 refine rk [] [] hh ?_;clear hh h;intro h hh;repeat apply TW.seq
 refine rk [2] [] hh ?_;clear hh h;intro h hh;cases H;exact rt hh
def zcv (k:Nat) (l:List Int) (fv:Int):Option Int:=(if (l.length:Int)≠fv then some 6 else some 0)
set_option maxHeartbeats 8000000 in
theorem zjk (ax:Axs) (hx:zb7 ax) (k:Nat) (l:List Int) (fv:Int) (v:Int) (H:zcv k l fv=some v):Pure Tryz.prog (EE ax) [] 129 [ints l,.cp [.int .i64 fv]] (.int .i64 v):=by
 rw [zcv] at H;refine en [.tmp 3] 8 [0,1] (hx.no _ (by decide)) (fn129 ax) ?_;intro h hh;repeat apply TW.seq
 refine rk [0,1] [] hh ?_;clear hh h;intro h hh;repeat apply TW.seq
 refine rk [7] [] hh ?_;clear hh h;intro h hh;rcases isp H with ⟨c1,H⟩|⟨c1,H⟩;rotate_left
 ·skip;repeat apply TW.seq
  refine cf (f2 hh (decide_eq_false c1)) ?_;repeat apply TW.seq
  refine sk ?_;repeat apply TW.seq
  refine rk [3] [] hh ?_;clear hh h;intro h hh;cases H;exact rt hh
 repeat apply TW.seq
 refine ct (f2 hh (decide_eq_true c1)) ?_;repeat apply TW.seq
 refine rk [3] [] hh ?_;clear hh h;intro h hh;cases H;exact rt hh
def zcj (k:Nat) (b:List Int):Nat→Int→Int→Int→Option ((Int×Int×Int) ⊕ (Int×Int))
 |0,_,_,_=>none
 |m+1,z,used,i=>(if i<(b.length:Int) then (if (0:Int)≤i∧i<(b.length:Int) then (((if i=9 then some (decide (1<(gx b i))) else some false):Option Bool).bind fun s_2=>(((if s_2=true then some true else (if 0<i then some (decide ((gx b i)=0)) else some false)):Option Bool).bind fun s_3=>(if s_3=true then some (.inl (0,0,6)) else (if (0:Int)≤(IntKind.i64.wrap (7*i)) then (if (gx b i)<128 then some (.inr (iOr .u64 z (iShl .u64 (IntKind.u64.wrap (iAnd .u8 (gx b i) 127)) (IntKind.i64.wrap (7*i))),IntKind.i64.wrap (i+1))) else zcj k b m (iOr .u64 z (iShl .u64 (IntKind.u64.wrap (iAnd .u8 (gx b i) 127)) (IntKind.i64.wrap (7*i)))) used (IntKind.i64.wrap (i+1))) else none)))) else none) else some (.inr (z,used)))
def zbh (k:Nat) (b:List Int):Option (Int×Int×Int):=((zcj k b k 0 0 0:Option ((Int×Int×Int) ⊕ (Int×Int))).bind fun o=>Sum.elim (fun r=>some r) (fun s_=>(if s_.2=0 then some (0,0,5) else (if (0:Int)≤1 then some (iXor .i64 (IntKind.i64.wrap (iShr .u64 s_.1 1)) (IntKind.i64.wrap (0 - (IntKind.i64.wrap (iAnd .u64 s_.1 1)))),s_.2,0) else none))) o)
set_option maxHeartbeats 8000000 in
theorem zd4 (ax:Axs) (hx:zb7 ax) (k:Nat) (b:List Int) (v:Int×Int×Int) (H:zbh k b=some v):Pure Tryz.prog (EE ax) [] 92 [byts b] (tupT [.int .i64 v.1,.int .i64 v.2.1,.int .i64 v.2.2]):=by
 rw [zbh] at H;refine enN [.tmp 2,.tmp 3,.tmp 4] 53 [0] (hx.no _ (by decide)) (fn92 ax) ?_;intro h hh;repeat apply TW.seq
 refine rk [0] [] hh ?_;clear hh h;intro h hh;repeat apply TW.seq
 apply TW.scope;repeat apply TW.seq
 refine rk [0,5] [] hh ?_;clear hh h;intro h hh;repeat apply TW.seq
 refine rk [0,5,6] [] hh ?_;clear hh h;intro h hh;repeat apply TW.seq
 refine lk ?_;repeat apply TW.seq
 refine rk [5,6,9,10,11] [] hh ?_;clear hh h;intro h hh;obtain ⟨o,H1,H⟩:=zad H;repeat apply TW.seq
 refine cu [5,6] 0 (fun h bs=>∃ s_:Int×Int,o=.inr s_∧(h 5=.int .u64 s_.1∧h 6=.int .i64 s_.2)∧bs=[]) ?_ ?_
 ·skip;repeat apply TW.seq
  apply TW.block;repeat apply TW.seq
  refine TW.loopT [5,6,9,10,11] (fun m h bs=>∃ (z:Int) (used:Int) (i:Int),zcj k b m z used i=some o∧(h 5=.int .u64 z∧h 6=.int .i64 used∧h 9=byts b∧h 10=.int .i64 (b.length:Int)∧h 11=.int .i64 i)∧bs=[]) ?_ k _ _ ?_;rotate_left
  ·exact ⟨0,0,0,H1,kq hh,rfl⟩
  clear hh h H1;rintro m h bs ⟨z,used,i,H1,hh,rfl⟩;rcases m with _|m
  ·rw [zcj] at H1;cases H1
  rw [zcj] at H1;repeat apply TW.seq
  refine rk [5,6,9,10,11,12] [] hh ?_;clear hh h;intro h hh;rcases isp H1 with ⟨c1,H1⟩|⟨c1,H1⟩;rotate_left
  ·skip;repeat apply TW.seq
   refine cf (f2 hh (decide_eq_false c1)) ?_;refine xk ?_;cases H1;exact ce hh ⟨_,rfl,kq hh,rfl⟩
  repeat apply TW.seq
  refine ct (f2 hh (decide_eq_true c1)) ?_;repeat apply TW.seq
  refine sk ?_;repeat apply TW.seq
  apply TW.block;obtain ⟨g2,H1⟩:=isg H1;repeat apply TW.seq
  refine rk [5,6,7,8,9,10,11] [] (f2 hh (za7 g2)) ?_;clear hh h;intro h hh;repeat apply TW.seq
  apply TW.block;obtain ⟨s_2,H2,H1⟩:=zad H1;repeat apply TW.seq
  refine cu [5,6,7,8,9,10,11,24] 0 (fun h bs=>(h 5=.int .u64 z∧h 6=.int .i64 used∧h 7=.int .i64 i∧h 8=.int .u8 (gx b i)∧h 9=byts b∧h 10=.int .i64 (b.length:Int)∧h 11=.int .i64 i∧h 24=.bool s_2)∧bs=[]) ?_ ?_
  ·skip;rcases isp H2 with ⟨c3,H2⟩|⟨c3,H2⟩;rotate_left
   ·skip;repeat apply TW.seq
    refine rk [5,6,7,8,9,10,11,24] [] (f2 hh (decide_eq_false c3)) ?_;clear hh h;intro h hh;cases H2;exact ce hh ⟨kq hh,rfl⟩
   repeat apply TW.seq
   refine rk [5,6,7,8,9,10,11,24] [] (f2 hh (decide_eq_true c3)) ?_;clear hh h;intro h hh;cases H2;exact ce hh ⟨kq hh,rfl⟩
  clear hh h;rintro h bs ⟨hh,rfl⟩;obtain ⟨s_3,H2,H1⟩:=zad H1;repeat apply TW.seq
  refine cu [5,6,7,8,9,10,11,24] 0 (fun h bs=>(h 5=.int .u64 z∧h 6=.int .i64 used∧h 7=.int .i64 i∧h 8=.int .u8 (gx b i)∧h 9=byts b∧h 10=.int .i64 (b.length:Int)∧h 11=.int .i64 i∧h 24=.bool s_3)∧bs=[]) ?_ ?_
  ·skip;rcases isb H2 with ⟨c4,H2⟩|⟨c4,H2⟩;rotate_left
   ·skip;repeat apply TW.seq
    refine cf (f2 hh c4) ?_;rcases isp H2 with ⟨c5,H2⟩|⟨c5,H2⟩;rotate_left
    ·skip;repeat apply TW.seq
     refine rk [5,6,7,8,9,10,11,24] [] (f3 hh (decide_eq_false c5) c4) ?_;clear hh h;intro h hh;cases H2;exact ce hh ⟨kq hh,rfl⟩
    repeat apply TW.seq
    refine rk [5,6,7,8,9,10,11,24] [] (f3 hh (decide_eq_true c5) c4) ?_;clear hh h;intro h hh;cases H2;exact ce hh ⟨kq hh,rfl⟩
   repeat apply TW.seq
   refine ct (f2 hh c4) ?_;repeat apply TW.seq
   refine sk ?_;cases H2;exact ce hh ⟨kq (f2 hh c4),rfl⟩
  clear hh h;rintro h bs ⟨hh,rfl⟩;rcases isb H1 with ⟨c6,H1⟩|⟨c6,H1⟩;rotate_left
  ·skip;repeat apply TW.seq
   refine cf (f2 hh c6) ?_;obtain ⟨g7,H1⟩:=isg H1;repeat apply TW.seq
   refine rk [5,6,7,8,9,10,11] [] (f3 hh c6 (z8u (k:=.u64) (k':=.i64) (a:=(IntKind.u64.wrap (iAnd .u8 (gx b i) 127))) g7)) ?_;clear hh h;intro h hh;repeat apply TW.seq
   refine rk [5,6,7,9,10,11,38] [] (f2 hh c6) ?_;clear hh h;intro h hh;rcases isp H1 with ⟨c8,H1⟩|⟨c8,H1⟩;rotate_left
   ·skip;repeat apply TW.seq
    refine cf (f2 hh (decide_eq_false c8)) ?_;repeat apply TW.seq
    refine sk ?_;repeat apply TW.seq
    refine rk [5,6,9,10,11] [] (f2 hh c6) ?_;clear hh h;intro h hh;exact rd m hh ⟨(iOr .u64 z (iShl .u64 (IntKind.u64.wrap (iAnd .u8 (gx b i) 127)) (IntKind.i64.wrap (7*i)))),used,(IntKind.i64.wrap (i+1)),H1,kq hh,rfl⟩
   repeat apply TW.seq
   refine ct (f2 hh (decide_eq_true c8)) ?_;repeat apply TW.seq
   refine rk [5,6] [] (f2 hh c6) ?_;clear hh h;intro h hh;refine xk ?_;cases H1;exact ce hh ⟨_,rfl,kq hh,rfl⟩
  repeat apply TW.seq
  refine ct (f2 hh c6) ?_;repeat apply TW.seq
  refine rk [2,3,4] [] (f2 hh c6) ?_;clear hh h;intro h hh;cases H1;obtain rfl:=sinl H;exact rt hh
 clear hh h;rintro h bs ⟨s_,rfl,hh,rfl⟩;replace H:=sinr H;repeat apply TW.seq
 refine rk [5,6,43] [] hh ?_;clear hh h;intro h hh;rcases isp H with ⟨c9,H⟩|⟨c9,H⟩;rotate_left
 ·skip;repeat apply TW.seq
  refine cf (f2 hh (decide_eq_false c9)) ?_;repeat apply TW.seq
  refine sk ?_;obtain ⟨g10,H⟩:=isg H;repeat apply TW.seq
  refine rk [2,3,4] [] (f2 hh (zx8 (k:=.u64) (k':=.u64) (a:=s_.1) g10)) ?_;clear hh h;intro h hh;cases H;exact rt hh
 repeat apply TW.seq
 refine ct (f2 hh (decide_eq_true c9)) ?_;repeat apply TW.seq
 refine rk [2,3,4] [] hh ?_;clear hh h;intro h hh;cases H;exact rt hh
def zio (k:Nat) (b:List Int) (least:Int):Option (Int×Int×Int):=((zbh k b).bind fun rGetInt=>(if rGetInt.2.2≠0 then some (0,0,rGetInt.2.2) else (if rGetInt.1<0 then some (0,0,6) else (if (0:Int)≤(IntKind.i64.wrap ((b.length:Int) - rGetInt.2.1))∧0<least then (if (IntKind.i64.wrap ((IntKind.i64.wrap ((b.length:Int) - rGetInt.2.1)) / least))<rGetInt.1 then some (0,0,5) else some (rGetInt.1,rGetInt.2.1,0)) else none))))
set_option maxHeartbeats 8000000 in
theorem zqb (ax:Axs) (hx:zb7 ax) (k:Nat) (b:List Int) (least:Int) (v:Int×Int×Int) (H:zio k b least=some v):Pure Tryz.prog (EE ax) [] 151 [byts b,.int .i64 least] (tupT [.int .i64 v.1,.int .i64 v.2.1,.int .i64 v.2.2]):=by
 rw [zio] at H;refine enN [.tmp 4,.tmp 5,.tmp 6] 34 [0,1] (hx.no _ (by decide)) (fn151 ax) ?_;intro h hh;repeat apply TW.seq
 refine rk [0,1] [] hh ?_;clear hh h;intro h hh;obtain ⟨rGetInt,e1,H⟩:=zad H;repeat apply TW.seq
 refine rkc [0,1,7,8,9] [] [(.tup [.int .i64 rGetInt.1,.int .i64 rGetInt.2.1,.int .i64 rGetInt.2.2],stL [])] hh ?_ ?_
 ·exact ⟨zau.call ((zd4 ax hx k b rGetInt e1 ).call _),trivial⟩
 clear hh h;intro h hh;repeat apply TW.seq
 apply TW.block;repeat apply TW.seq
 refine rk [0,1,7,8,9,16] [] hh ?_;clear hh h;intro h hh;rcases isp H with ⟨c2,H⟩|⟨c2,H⟩;rotate_left
 ·skip;repeat apply TW.seq
  refine cf (f2 hh (decide_eq_false c2)) ?_;repeat apply TW.seq
  refine rk [0,1,7,8,20] [] hh ?_;clear hh h;intro h hh;rcases isp H with ⟨c3,H⟩|⟨c3,H⟩;rotate_left
  ·skip;repeat apply TW.seq
   refine cf (f2 hh (decide_eq_false c3)) ?_;obtain ⟨g4,H⟩:=isg H;repeat apply TW.seq
   refine rk [7,8,23] [] hh ?_;clear hh h;intro h hh;rcases isp H with ⟨c5,H⟩|⟨c5,H⟩;rotate_left
   ·skip;repeat apply TW.seq
    refine cf (f2 hh (decide_eq_false c5)) ?_;repeat apply TW.seq
    refine sk ?_;repeat apply TW.seq
    refine rk [4,5,6] [] hh ?_;clear hh h;intro h hh;cases H;exact rt hh
   repeat apply TW.seq
   refine ct (f2 hh (decide_eq_true c5)) ?_;repeat apply TW.seq
   refine rk [4,5,6] [] hh ?_;clear hh h;intro h hh;cases H;exact rt hh
  repeat apply TW.seq
  refine ct (f2 hh (decide_eq_true c3)) ?_;repeat apply TW.seq
  refine rk [4,5,6] [] hh ?_;clear hh h;intro h hh;cases H;exact rt hh
 repeat apply TW.seq
 refine ct (f2 hh (decide_eq_true c2)) ?_;repeat apply TW.seq
 refine rk [4,5,6] [] hh ?_;clear hh h;intro h hh;cases H;exact rt hh
def zbg (k:Nat) (b:List Int) (rlength:Int×Int×Int):Nat→Int→Int→(List Int)→Nat→Option ((List Int×Int×Int) ⊕ (Int×List Int×Nat))
 |0,_,_,_,_=>none
 |m+1,at_,i,l,n=>(if i<rlength.1 then (if (0:Int)≤at_∧at_≤(b.length:Int) then ((zbh k (b.drop at_.toNat)).bind fun rGetInt=>(if rGetInt.2.2≠0 then some (.inl ([],0,rGetInt.2.2)) else (if (n+1)*9≤1000000000 then zbg k b rlength m (IntKind.i64.wrap (at_+rGetInt.2.1)) (IntKind.i64.wrap (i+1)) (l++[rGetInt.1]) (n+1) else none))) else none) else some (.inr (at_,l,n)))
def zgb (k:Nat) (b:List Int) (least:Int):Option (List Int×Int×Int):=((zio k b least).bind fun rlength=>(if rlength.2.2≠0 then some ([],0,rlength.2.2) else ((zbg k b rlength k rlength.2.1 0 [] 0:Option ((List Int×Int×Int) ⊕ (Int×List Int×Nat))).bind fun o=>Sum.elim (fun r=>some r) (fun s_=>(if s_.2.1.length=s_.2.2 then some (s_.2.1,s_.1,0) else none)) o)))
set_option maxHeartbeats 8000000 in
theorem zmn (ax:Axs) (hx:zb7 ax) (k:Nat) (b:List Int) (least:Int) (v:List Int×Int×Int) (H:zgb k b least=some v):Call Tryz.prog (EE ax) [] 145 [byts b,.int .i64 least,.fn 92 [] []] (stL []) (tupT [ints v.1,.int .i64 v.2.1,.int .i64 v.2.2]) (stL []):=by
 rw [zgb] at H;refine enB [.tmp 6,.tmp 7,.tmp 8] 51 [0,1,2] (hx.no _ (by decide)) (fn145 ax) ?_;intro h hh;repeat apply TW.seq
 refine rk [0,1,2] [] hh ?_;clear hh h;intro h hh;obtain ⟨rlength,e1,H⟩:=zad H;repeat apply TW.seq
 refine rkc [0,2,9,10,11] [] [(.tup [.int .i64 rlength.1,.int .i64 rlength.2.1,.int .i64 rlength.2.2],stL [])] hh ?_ ?_
 ·exact ⟨zau.call ((zqb ax hx k b least rlength e1 ).call _),trivial⟩
 clear hh h;intro h hh;repeat apply TW.seq
 refine rk [0,2,9,10,11,24] [] hh ?_;clear hh h;intro h hh;rcases isp H with ⟨c2,H⟩|⟨c2,H⟩;rotate_left
 ·skip;repeat apply TW.seq
  refine cf (f2 hh (decide_eq_false c2)) ?_;repeat apply TW.seq
  refine sk ?_;repeat apply TW.seq
  refine rk [0,2,9,10,12] [] hh ?_;clear hh h;intro h hh;refine vk 12 1 [0,2,9,10,12] hh ?_;clear hh h;intro h hh;repeat apply TW.seq
  refine rk [0,2,10,12,26,27] [] hh ?_;clear hh h;intro h hh;obtain ⟨o,H1,H⟩:=zad H;repeat apply TW.seq
  refine cu [10,12] 1 (fun h bs=>∃ s_:Int×List Int×Nat,o=.inr s_∧(h 10=.int .i64 s_.1∧h 12=.arr 0 1 0 s_.2.2 s_.2.2 s_.2.2)∧bs=[.cells false s_.2.2 (s_.2.1.map (T.int .i64))]) ?_ ?_
  ·skip;repeat apply TW.seq
   apply TW.block;repeat apply TW.seq
   refine TW.loopT [0,2,10,12,26,27] (fun m h bs=>∃ (at_:Int) (i:Int) (l:List Int) (n:Nat),zbg k b rlength m at_ i l n=some o∧(h 0=byts b∧h 2=.fn 92 [] []∧h 10=.int .i64 at_∧h 12=.arr 0 1 0 n n n∧h 26=.int .i64 rlength.1∧h 27=.int .i64 i)∧bs=[.cells false n (l.map (T.int .i64))]) ?_ k _ _ ?_;rotate_left
   ·exact ⟨rlength.2.1,0,[],0,H1,kq hh,rfl⟩
   clear hh h H1;rintro m h bs ⟨at_,i,l,n,H1,hh,rfl⟩;rcases m with _|m
   ·rw [zbg] at H1;cases H1
   rw [zbg] at H1;repeat apply TW.seq
   refine rk [0,2,10,12,26,27,28] [] hh ?_;clear hh h;intro h hh;rcases isp H1 with ⟨c3,H1⟩|⟨c3,H1⟩;rotate_left
   ·skip;repeat apply TW.seq
    refine cf (f2 hh (decide_eq_false c3)) ?_;refine xk ?_;cases H1;exact ce hh ⟨_,rfl,kq hh,rfl⟩
   repeat apply TW.seq
   refine ct (f2 hh (decide_eq_true c3)) ?_;repeat apply TW.seq
   refine sk ?_;repeat apply TW.seq
   apply TW.block;obtain ⟨g4,H1⟩:=isg H1;obtain ⟨rGetInt,e5,H1⟩:=zad H1;repeat apply TW.seq
   refine rkc [0,2,10,12,13,14,15,26,27] [] [(.tup [.int .i64 rGetInt.1,.int .i64 rGetInt.2.1,.int .i64 rGetInt.2.2],stL [.cells false n (l.map (T.int .i64))])] (f3 hh (znm g4) (zh4 (T.int .u8) b)) ?_ ?_
   ·exact ⟨zau.call ((zd4 ax hx k (b.drop at_.toNat) rGetInt e5 ).call _),trivial⟩
   clear hh h;intro h hh;repeat apply TW.seq
   refine rk [0,2,10,12,13,14,15,26,27,39] [] hh ?_;clear hh h;intro h hh;rcases isp H1 with ⟨c6,H1⟩|⟨c6,H1⟩;rotate_left
   ·skip;repeat apply TW.seq
    refine cf (f2 hh (decide_eq_false c6)) ?_;repeat apply TW.seq
    refine sk ?_;obtain ⟨g7,H1⟩:=isg H1;repeat apply TW.seq
    refine rg [] [] [.cells false (n+1) ((l++[rGetInt.1]).map (T.int .i64))] (fun h=>h 0=byts b∧h 2=.fn 92 [] []∧h 10=.int .i64 (IntKind.i64.wrap (at_+rGetInt.2.1))∧h 12=.arr 0 1 0 (n+1) (n+1) (n+1)∧h 26=.int .i64 rlength.1∧h 27=.int .i64 i) hh trivial ?_;clear hh h;intro h hh;repeat apply TW.seq
    refine rk [0,2,10,12,26,27] [] hh ?_;clear hh h;intro h hh;exact rd m hh ⟨(IntKind.i64.wrap (at_+rGetInt.2.1)),(IntKind.i64.wrap (i+1)),(l++[rGetInt.1]),(n+1),H1,kq hh,rfl⟩
   repeat apply TW.seq
   refine ct (f2 hh (decide_eq_true c6)) ?_;repeat apply TW.seq
   refine rk [6,7,8] [] hh ?_;clear hh h;intro h hh;refine nk 6 1 [6,7,8] hh ?_;clear hh h;intro h hh;cases H1;obtain rfl:=sinl H;exact rtB hh
  clear hh h;rintro h bs ⟨s_,rfl,hh,rfl⟩;replace H:=sinr H;repeat apply TW.seq
  refine rk [6,7,8] [] hh ?_;clear hh h;intro h hh;obtain ⟨g8,H⟩:=isg H;refine TW.freeze 6 (b:=0) (e:=1) (off:=0) (len:=s_.2.2) (cap:=s_.2.2) (M:=s_.2.2) (s_.2.1.map (T.int .i64)) (kq hh) (by rfl) (by omega) (by omega) (by rw [List.drop_zero,Nat.mul_one,zbv (fun _=>rfl),List.take_of_length_le (by rw [List.length_map];omega)]) (fun t ht=>by obtain ⟨x,_,rfl⟩:=List.mem_map.1 ht;first|rfl|exact zd2 _|exact zci _|exact zbz _|exact zbe _ | (rw [List.length_map];rfl)) (by rw [List.length_map];exact g8) (by omega) ?_;rw [zeb _ _ _ (by simp only [lzA]<;>omega)];simp only [scA];refine gk [6,7,8] hh ?_;clear hh h;intro h hh;cases H;exact rtB hh
 repeat apply TW.seq
 refine ct (f2 hh (decide_eq_true c2)) ?_;repeat apply TW.seq
 refine rk [6,7,8] [] hh ?_;clear hh h;intro h hh;refine nk 6 1 [6,7,8] hh ?_;clear hh h;intro h hh;cases H;exact rtB hh
def zgd (k:Nat) (b:List Int):Option (List Int×Int×Int):=((zgb k b 1).bind fun rb=>some (rb.1,rb.2.1,rb.2.2))
set_option maxHeartbeats 8000000 in
theorem zo4 (ax:Axs) (hx:zb7 ax) (k:Nat) (b:List Int) (v:List Int×Int×Int) (H:zgd k b=some v):Pure Tryz.prog (EE ax) [] 128 [byts b] (tupT [ints v.1,.int .i64 v.2.1,.int .i64 v.2.2]):=by
 rw [zgd] at H;refine enN [.tmp 2,.tmp 3,.tmp 4] 10 [0] (hx.no _ (by decide)) (fn128 ax) ?_;intro h hh;repeat apply TW.seq
 refine rk [0] [] hh ?_;clear hh h;intro h hh;obtain ⟨rb,e1,H⟩:=zad H;repeat apply TW.seq
 refine rkc [2,3,4] [] [(.tup [ints rb.1,.int .i64 rb.2.1,.int .i64 rb.2.2],stL [])] hh ?_ ?_
 ·exact ⟨ca [] (zmn ax hx k b 1 rb e1),trivial⟩
 clear hh h;intro h hh;cases H;exact rt hh
def zg0 (k:Nat) (n:Int) (fv:Int):Option Int:=(if n<0 then some 6 else (if fv<n then some 2 else some 0))
set_option maxHeartbeats 8000000 in
theorem zlw (ax:Axs) (hx:zb7 ax) (k:Nat) (n:Int) (fv:Int) (v:Int) (H:zg0 k n fv=some v):Pure Tryz.prog (EE ax) [] 131 [.int .i64 n,.cp [.int .i64 fv]] (.int .i64 v):=by
 rw [zg0] at H;refine en [.tmp 3] 11 [0,1] (hx.no _ (by decide)) (fn131 ax) ?_;intro h hh;repeat apply TW.seq
 refine rk [0,1] [] hh ?_;clear hh h;intro h hh;repeat apply TW.seq
 apply TW.block;repeat apply TW.seq
 refine rk [0,1,4] [] hh ?_;clear hh h;intro h hh;rcases isp H with ⟨c1,H⟩|⟨c1,H⟩;rotate_left
 ·skip;repeat apply TW.seq
  refine cf (f2 hh (decide_eq_false c1)) ?_;repeat apply TW.seq
  refine rk [7] [] hh ?_;clear hh h;intro h hh;rcases isp H with ⟨c2,H⟩|⟨c2,H⟩;rotate_left
  ·skip;repeat apply TW.seq
   refine cf (f2 hh (decide_eq_false c2)) ?_;repeat apply TW.seq
   refine sk ?_;repeat apply TW.seq
   refine rk [3] [] hh ?_;clear hh h;intro h hh;cases H;exact rt hh
  repeat apply TW.seq
  refine ct (f2 hh (decide_eq_true c2)) ?_;repeat apply TW.seq
  refine rk [3] [] hh ?_;clear hh h;intro h hh;cases H;exact rt hh
 repeat apply TW.seq
 refine ct (f2 hh (decide_eq_true c1)) ?_;repeat apply TW.seq
 refine rk [3] [] hh ?_;clear hh h;intro h hh;cases H;exact rt hh
def zgf (k:Nat) (n:Int) (fv:Int):Option Int:=(if n<0 then some 6 else (if fv<n then some 2 else some 0))
set_option maxHeartbeats 8000000 in
theorem zkr (ax:Axs) (hx:zb7 ax) (k:Nat) (n:Int) (fv:Int) (v:Int) (H:zgf k n fv=some v):Pure Tryz.prog (EE ax) [] 130 [.int .i64 n,.cp [.int .i64 fv]] (.int .i64 v):=by
 rw [zgf] at H;refine en [.tmp 3] 11 [0,1] (hx.no _ (by decide)) (fn130 ax) ?_;intro h hh;repeat apply TW.seq
 refine rk [0,1] [] hh ?_;clear hh h;intro h hh;repeat apply TW.seq
 apply TW.block;repeat apply TW.seq
 refine rk [0,1,4] [] hh ?_;clear hh h;intro h hh;rcases isp H with ⟨c1,H⟩|⟨c1,H⟩;rotate_left
 ·skip;repeat apply TW.seq
  refine cf (f2 hh (decide_eq_false c1)) ?_;repeat apply TW.seq
  refine rk [7] [] hh ?_;clear hh h;intro h hh;rcases isp H with ⟨c2,H⟩|⟨c2,H⟩;rotate_left
  ·skip;repeat apply TW.seq
   refine cf (f2 hh (decide_eq_false c2)) ?_;repeat apply TW.seq
   refine sk ?_;repeat apply TW.seq
   refine rk [3] [] hh ?_;clear hh h;intro h hh;cases H;exact rt hh
  repeat apply TW.seq
  refine ct (f2 hh (decide_eq_true c2)) ?_;repeat apply TW.seq
  refine rk [3] [] hh ?_;clear hh h;intro h hh;cases H;exact rt hh
 repeat apply TW.seq
 refine ct (f2 hh (decide_eq_true c1)) ?_;repeat apply TW.seq
 refine rk [3] [] hh ?_;clear hh h;intro h hh;cases H;exact rt hh
def zey (k:Nat) (n:Int) (fv:Int):Option Int:=(if n<0 then some 6 else (if fv<n then some 2 else some 0))
set_option maxHeartbeats 8000000 in
theorem zkp (ax:Axs) (hx:zb7 ax) (k:Nat) (n:Int) (fv:Int) (v:Int) (H:zey k n fv=some v):Pure Tryz.prog (EE ax) [] 126 [.int .i64 n,.cp [.int .i64 fv]] (.int .i64 v):=by
 rw [zey] at H;refine en [.tmp 3] 11 [0,1] (hx.no _ (by decide)) (fn126 ax) ?_;intro h hh;repeat apply TW.seq
 refine rk [0,1] [] hh ?_;clear hh h;intro h hh;repeat apply TW.seq
 apply TW.block;repeat apply TW.seq
 refine rk [0,1,4] [] hh ?_;clear hh h;intro h hh;rcases isp H with ⟨c1,H⟩|⟨c1,H⟩;rotate_left
 ·skip;repeat apply TW.seq
  refine cf (f2 hh (decide_eq_false c1)) ?_;repeat apply TW.seq
  refine rk [7] [] hh ?_;clear hh h;intro h hh;rcases isp H with ⟨c2,H⟩|⟨c2,H⟩;rotate_left
  ·skip;repeat apply TW.seq
   refine cf (f2 hh (decide_eq_false c2)) ?_;repeat apply TW.seq
   refine sk ?_;repeat apply TW.seq
   refine rk [3] [] hh ?_;clear hh h;intro h hh;cases H;exact rt hh
  repeat apply TW.seq
  refine ct (f2 hh (decide_eq_true c2)) ?_;repeat apply TW.seq
  refine rk [3] [] hh ?_;clear hh h;intro h hh;cases H;exact rt hh
 repeat apply TW.seq
 refine ct (f2 hh (decide_eq_true c1)) ?_;repeat apply TW.seq
 refine rk [3] [] hh ?_;clear hh h;intro h hh;cases H;exact rt hh
def zc1 (k:Nat) (a:Int) (x0:List Int) (x02:Int):Option (Int×List Int×Int):=(if x02≠0 then some (0,x0,x02) else ((zbh k x0).bind fun rGetInt=>(((if rGetInt.2.2=0 then ((zey k rGetInt.1 a).bind fun r1=>some r1) else some rGetInt.2.2):Option Int).bind fun s_=>(if s_≠0 then some (0,x0,s_) else (if (0:Int)≤rGetInt.2.1∧rGetInt.2.1≤(x0.length:Int) then some (rGetInt.1,x0.drop rGetInt.2.1.toNat,s_) else none)))))
set_option maxHeartbeats 8000000 in
theorem zlu (ax:Axs) (hx:zb7 ax) (k:Nat) (a:Int) (x0:List Int) (x02:Int) (v:Int×List Int×Int) (H:zc1 k a x0 x02=some v):Call Tryz.prog (EE ax) [] 91 [.ptr 0 0 2,.fn 92 [] [],.fn 126 [] [.cp [.int .i64 a]]] (stL [.cells true 2 [byts x0,.int .i64 x02]]) (tupT [.int .i64 v.1]) (stL [.cells true 2 [byts v.2.1,.int .i64 v.2.2]]):=by
 rw [zc1] at H;refine enB [.tmp 6] 49 [0,1,2] (hx.no _ (by decide)) (fn91 ax) ?_;intro h hh;repeat apply TW.seq
 refine rk [0,1,2] [] hh ?_;clear hh h;intro h hh;repeat apply TW.seq
 refine rk [0,1,2,7] [] hh ?_;clear hh h;intro h hh;repeat apply TW.seq
 refine rk [0,1,2,7,15] [] hh ?_;clear hh h;intro h hh;rcases isp H with ⟨c1,H⟩|⟨c1,H⟩;rotate_left
 ·skip;repeat apply TW.seq
  refine cf (f2 hh (decide_eq_false c1)) ?_;repeat apply TW.seq
  refine sk ?_;obtain ⟨rGetInt,e2,H⟩:=zad H;repeat apply TW.seq
  refine rkc [0,2,7,8,9,10] [] [(.tup [.int .i64 rGetInt.1,.int .i64 rGetInt.2.1,.int .i64 rGetInt.2.2],stL [.cells true 2 [byts x0,.int .i64 x02]])] hh ?_ ?_
  ·exact ⟨zau.call ((zd4 ax hx k x0 rGetInt e2 ).call _),trivial⟩
  clear hh h;intro h hh;repeat apply TW.seq
  refine rk [0,2,7,8,9,10,28] [] hh ?_;clear hh h;intro h hh;obtain ⟨s_,H1,H⟩:=zad H;repeat apply TW.seq
  refine cu [0,7,8,9,10] 1 (fun h bs=>(h 0=.ptr 0 0 2∧h 7=.int .i64 0∧h 8=.int .i64 rGetInt.1∧h 9=.int .i64 rGetInt.2.1∧h 10=.int .i64 s_)∧bs=[.cells true 2 [byts x0,.int .i64 x02]]) ?_ ?_
  ·skip;rcases isp H1 with ⟨c3,H1⟩|⟨c3,H1⟩;rotate_left
   ·skip;repeat apply TW.seq
    refine cf (f2 hh (decide_eq_false c3)) ?_;repeat apply TW.seq
    refine sk ?_;cases H1;exact ce hh ⟨kq hh,rfl⟩
   repeat apply TW.seq
   refine ct (f2 hh (decide_eq_true c3)) ?_;obtain ⟨r1,e4,H1⟩:=zad H1;repeat apply TW.seq
   refine rkc [0,7,8,9,10] [] [(.int .i64 r1,stL [.cells true 2 [byts x0,.int .i64 x02]])] hh ?_ ?_
   ·exact ⟨zau.call ((zkp ax hx k rGetInt.1 a r1 e4 ).call _),trivial⟩
   clear hh h;intro h hh;cases H1;exact ce hh ⟨kq hh,rfl⟩
  clear hh h;rintro h bs ⟨hh,rfl⟩;repeat apply TW.seq
  refine rk [0,7,8,9,10] [] hh ?_;clear hh h;intro h hh;repeat apply TW.seq
  refine rk [0,7,8,9,37] [] hh ?_;clear hh h;intro h hh;rcases isp H with ⟨c5,H⟩|⟨c5,H⟩;rotate_left
  ·skip;repeat apply TW.seq
   refine cf (f2 hh (decide_eq_false c5)) ?_;repeat apply TW.seq
   refine sk ?_;obtain ⟨g6,H⟩:=isg H;repeat apply TW.seq
   refine rk [8] [] (f3 hh (znm g6) (zh4 (T.int .u8) x0)) ?_;clear hh h;intro h hh;repeat apply TW.seq
   refine rk [6] [] hh ?_;clear hh h;intro h hh;cases H;exact rtB hh
  repeat apply TW.seq
  refine ct (f2 hh (decide_eq_true c5)) ?_;repeat apply TW.seq
  refine rk [6] [] hh ?_;clear hh h;intro h hh;cases H;exact rtB hh
 repeat apply TW.seq
 refine ct (f2 hh (decide_eq_true c1)) ?_;repeat apply TW.seq
 refine rk [6] [] hh ?_;clear hh h;intro h hh;cases H;exact rtB hh
def zby (k:Nat) (a:Int) (x0:List Int) (x02:Int):Option (Option (List Int)×List Int×Int):=(if x02≠0 then some (none,x0,x02) else ((zgd k x0).bind fun rGetInts=>(((if rGetInts.2.2=0 then ((zcv k rGetInts.1 a).bind fun r1=>some r1) else some rGetInts.2.2):Option Int).bind fun s_=>(if s_≠0 then some (none,x0,s_) else (if (0:Int)≤rGetInts.2.1∧rGetInts.2.1≤(x0.length:Int) then some ((some rGetInts.1),x0.drop rGetInts.2.1.toNat,s_) else none)))))
set_option maxHeartbeats 8000000 in
theorem zkn (ax:Axs) (hx:zb7 ax) (k:Nat) (a:Int) (x0:List Int) (x02:Int) (v:Option (List Int)×List Int×Int) (H:zby k a x0 x02=some v):Call Tryz.prog (EE ax) [] 127 [.ptr 0 0 2,.fn 128 [] [],.fn 129 [] [.cp [.int .i64 a]]] (stL [.cells true 2 [byts x0,.int .i64 x02]]) (tupT [nlI v.1]) (stL [.cells true 2 [byts v.2.1,.int .i64 v.2.2]]):=by
 rw [zby] at H;refine enB [.tmp 6] 49 [0,1,2] (hx.no _ (by decide)) (fn127 ax) ?_;intro h hh;repeat apply TW.seq
 refine rk [0,1,2] [] hh ?_;clear hh h;intro h hh;repeat apply TW.seq
 refine rk [0,1,2,7] [] hh ?_;clear hh h;intro h hh;repeat apply TW.seq
 refine rk [0,1,2,7,15] [] hh ?_;clear hh h;intro h hh;rcases isp H with ⟨c1,H⟩|⟨c1,H⟩;rotate_left
 ·skip;repeat apply TW.seq
  refine cf (f2 hh (decide_eq_false c1)) ?_;repeat apply TW.seq
  refine sk ?_;obtain ⟨rGetInts,e2,H⟩:=zad H;repeat apply TW.seq
  refine rkc [0,2,7,8,9,10] [] [(.tup [ints rGetInts.1,.int .i64 rGetInts.2.1,.int .i64 rGetInts.2.2],stL [.cells true 2 [byts x0,.int .i64 x02]])] hh ?_ ?_
  ·exact ⟨zau.call ((zo4 ax hx k x0 rGetInts e2 ).call _),trivial⟩
  clear hh h;intro h hh;repeat apply TW.seq
  refine rk [0,2,7,8,9,10,28] [] hh ?_;clear hh h;intro h hh;obtain ⟨s_,H1,H⟩:=zad H;repeat apply TW.seq
  refine cu [0,7,8,9,10] 1 (fun h bs=>(h 0=.ptr 0 0 2∧h 7=.nils∧h 8=ints rGetInts.1∧h 9=.int .i64 rGetInts.2.1∧h 10=.int .i64 s_)∧bs=[.cells true 2 [byts x0,.int .i64 x02]]) ?_ ?_
  ·skip;rcases isp H1 with ⟨c3,H1⟩|⟨c3,H1⟩;rotate_left
   ·skip;repeat apply TW.seq
    refine cf (f2 hh (decide_eq_false c3)) ?_;repeat apply TW.seq
    refine sk ?_;cases H1;exact ce hh ⟨kq hh,rfl⟩
   repeat apply TW.seq
   refine ct (f2 hh (decide_eq_true c3)) ?_;obtain ⟨r1,e4,H1⟩:=zad H1;repeat apply TW.seq
   refine rkc [0,7,8,9,10] [] [(.int .i64 r1,stL [.cells true 2 [byts x0,.int .i64 x02]])] hh ?_ ?_
   ·exact ⟨zau.call ((zjk ax hx k rGetInts.1 a r1 e4 ).call _),trivial⟩
   clear hh h;intro h hh;cases H1;exact ce hh ⟨kq hh,rfl⟩
  clear hh h;rintro h bs ⟨hh,rfl⟩;repeat apply TW.seq
  refine rk [0,7,8,9,10] [] hh ?_;clear hh h;intro h hh;repeat apply TW.seq
  refine rk [0,7,8,9,37] [] hh ?_;clear hh h;intro h hh;rcases isp H with ⟨c5,H⟩|⟨c5,H⟩;rotate_left
  ·skip;repeat apply TW.seq
   refine cf (f2 hh (decide_eq_false c5)) ?_;repeat apply TW.seq
   refine sk ?_;obtain ⟨g6,H⟩:=isg H;repeat apply TW.seq
   refine rk [8] [] (f3 hh (znm g6) (zh4 (T.int .u8) x0)) ?_;clear hh h;intro h hh;repeat apply TW.seq
   refine rk [6] [] hh ?_;clear hh h;intro h hh;cases H;exact rtB hh
  repeat apply TW.seq
  refine ct (f2 hh (decide_eq_true c5)) ?_;repeat apply TW.seq
  refine rk [6] [] hh ?_;clear hh h;intro h hh;cases H;exact rtB hh
 repeat apply TW.seq
 refine ct (f2 hh (decide_eq_true c1)) ?_;repeat apply TW.seq
 refine rk [6] [] hh ?_;clear hh h;intro h hh;cases H;exact rtB hh
def zal (k:Nat) (many:Int) (x0:List Int) (x02:Int):Option (List Int×List Int×Int):=((zby k many x0 x02).bind fun rb=>(if rb.1.isSome=true then (if (rb.1.getD []).length≠0 then some (rb.1.getD [],rb.2.1,rb.2.2) else none) else (if (0:Int)≤many∧many.toNat*9≤1000000000 then some (List.replicate many.toNat 0,rb.2.1,rb.2.2) else none)))
set_option maxHeartbeats 8000000 in
theorem zge (ax:Axs) (hx:zb7 ax) (k:Nat) (many:Int) (x0:List Int) (x02:Int) (v:List Int×List Int×Int) (H:zal k many x0 x02=some v):Call Tryz.prog (EE ax) [] 85 [.ptr 0 0 2,.int .i64 many] (stL [.cells true 2 [byts x0,.int .i64 x02]]) (tupT [ints v.1]) (stL [.cells true 2 [byts v.2.1,.int .i64 v.2.2]]):=by
 rw [zal] at H;refine enB [.tmp 4] 14 [0,1] (hx.no _ (by decide)) (fn85 ax) ?_;intro h hh;repeat apply TW.seq
 refine rk [0,3] [] hh ?_;clear hh h;intro h hh;refine zk 3 1 1 true [.int .i64 many] [0,3] hh ?_;clear hh h;intro h hh;obtain ⟨rb,e1,H⟩:=zad H;repeat apply TW.seq
 refine rkc [3,5] [] [(nlI rb.1,stL [.cells true 2 [byts rb.2.1,.int .i64 rb.2.2],.gone])] hh ?_ ?_
 ·exact ⟨ca [0] (zkn ax hx k many x0 x02 rb e1),trivial⟩
 clear hh h;intro h hh;rcases isb H with ⟨c2,H⟩|⟨c2,H⟩;rotate_left
 ·skip;repeat apply TW.seq
  refine rk [3,5,10] [] (f3 hh (ybv c2) (f2 c2 (yji (ti47 ax)))) ?_;clear hh h;intro h hh;repeat apply TW.seq
  refine ct hh ?_;obtain ⟨g4,H⟩:=isg H;repeat apply TW.seq
  refine rk [4] [] (f2 hh c2) ?_;clear hh h;intro h hh;refine TW.freeze 4 (b:=2) (e:=1) (off:=0) (len:=many.toNat) (cap:=many.toNat) (M:=many.toNat) ((List.replicate many.toNat 0).map (T.int .i64)) (kq hh) (by rfl) (by omega) (by omega) (by rw [List.drop_zero,Nat.mul_one,zbv (fun _=>rfl),List.take_of_length_le (by rw [List.length_map,List.length_replicate];omega)]) (fun t ht=>by obtain ⟨x,_,rfl⟩:=List.mem_map.1 ht;first|rfl|exact zd2 _|exact zci _|exact zbz _|exact zbe _ | (rw [List.length_map];rfl)) (by rw [List.length_map];exact List.length_replicate) (by omega) ?_;rw [zeb _ _ _ (by simp only [lzA]<;>omega)];simp only [scA];refine gk [4] hh ?_;clear hh h;intro h hh;cases H;exact rtB hh
 obtain ⟨g3,H⟩:=isg H;repeat apply TW.seq
 refine rk [3,5,10] [] (f3 hh (z21 c2) (f2 c2 (fun P S x y=>yjj (ti47 ax) P S x y g3))) ?_;clear hh h;intro h hh;repeat apply TW.seq
 refine cf hh ?_;repeat apply TW.seq
 refine sk ?_;repeat apply TW.seq
 refine rk [4] [] (f3 hh (z21 c2) c2) ?_;clear hh h;intro h hh;cases H;exact rtB hh
def zam (k:Nat) (x0:List Int) (x02:Int):Option (Ar 10×List Int×Int):=((zal k 10 x0 x02).bind fun rb=>some (cpL (zA 10) rb.1,rb.2.1,rb.2.2))
set_option maxHeartbeats 8000000 in
theorem zcy (ax:Axs) (hx:zb7 ax) (k:Nat) (x0:List Int) (x02:Int) (v:Ar 10×List Int×Int) (H:zam k x0 x02=some v):Call Tryz.prog (EE ax) [] 86 [.ptr 0 0 2] (stL [.cells true 2 [byts x0,.int .i64 x02]]) (tupT [.agg (v.1.l.map (T.int .i64))]) (stL [.cells true 2 [byts v.2.1,.int .i64 v.2.2]]):=by
 rw [zam] at H;refine enB [.cell 2 39] 9 [0] (hx.no _ (by decide)) (fn86 ax) ?_;intro h hh;repeat apply TW.seq
 refine rk [0,2] [] hh ?_;clear hh h;intro h hh;repeat apply TW.seq
 refine rk [0,2,3] [] hh ?_;clear hh h;intro h hh;obtain ⟨rb,e1,H⟩:=zad H;repeat apply TW.seq
 refine dk 0 [2,3] [] [] [(ints rb.1,stL [.cells true 2 [byts rb.2.1,.int .i64 rb.2.2],.cells true 10 ((zA 10).l.map (T.int .i64)),.cells true 10 ((zA 10).l.map (T.int .i64))])] (f3 hh (yib (k:=.i64) (zA 10) rb.1) (f3 (yhh (rb.1.length) 10) (@z6k.eq_1) (@tSrc.eq_1))) trivial ?_ ?_
 ·exact ⟨ca [0] (zge ax hx k 10 x0 x02 rb e1),trivial⟩
 clear hh h;intro h hh;repeat apply TW.seq
 refine rk [2] [] hh ?_;clear hh h;intro h hh;cases H;exact rtBc hh
def zdh (k:Nat) (a:Int) (x0:List Int) (x02:Int):Option (Int×List Int×Int):=(if x02≠0 then some (0,x0,x02) else ((zbh k x0).bind fun rGetInt=>(((if rGetInt.2.2=0 then ((zgf k rGetInt.1 a).bind fun r1=>some r1) else some rGetInt.2.2):Option Int).bind fun s_=>(if s_≠0 then some (0,x0,s_) else (if (0:Int)≤rGetInt.2.1∧rGetInt.2.1≤(x0.length:Int) then some (rGetInt.1,x0.drop rGetInt.2.1.toNat,s_) else none)))))
set_option maxHeartbeats 8000000 in
theorem zkm (ax:Axs) (hx:zb7 ax) (k:Nat) (a:Int) (x0:List Int) (x02:Int) (v:Int×List Int×Int) (H:zdh k a x0 x02=some v):Call Tryz.prog (EE ax) [] 91 [.ptr 0 0 2,.fn 92 [] [],.fn 130 [] [.cp [.int .i64 a]]] (stL [.cells true 2 [byts x0,.int .i64 x02]]) (tupT [.int .i64 v.1]) (stL [.cells true 2 [byts v.2.1,.int .i64 v.2.2]]):=by
 rw [zdh] at H;refine enB [.tmp 6] 49 [0,1,2] (hx.no _ (by decide)) (fn91 ax) ?_;intro h hh;repeat apply TW.seq
 refine rk [0,1,2] [] hh ?_;clear hh h;intro h hh;repeat apply TW.seq
 refine rk [0,1,2,7] [] hh ?_;clear hh h;intro h hh;repeat apply TW.seq
 refine rk [0,1,2,7,15] [] hh ?_;clear hh h;intro h hh;rcases isp H with ⟨c1,H⟩|⟨c1,H⟩;rotate_left
 ·skip;repeat apply TW.seq
  refine cf (f2 hh (decide_eq_false c1)) ?_;repeat apply TW.seq
  refine sk ?_;obtain ⟨rGetInt,e2,H⟩:=zad H;repeat apply TW.seq
  refine rkc [0,2,7,8,9,10] [] [(.tup [.int .i64 rGetInt.1,.int .i64 rGetInt.2.1,.int .i64 rGetInt.2.2],stL [.cells true 2 [byts x0,.int .i64 x02]])] hh ?_ ?_
  ·exact ⟨zau.call ((zd4 ax hx k x0 rGetInt e2 ).call _),trivial⟩
  clear hh h;intro h hh;repeat apply TW.seq
  refine rk [0,2,7,8,9,10,28] [] hh ?_;clear hh h;intro h hh;obtain ⟨s_,H1,H⟩:=zad H;repeat apply TW.seq
  refine cu [0,7,8,9,10] 1 (fun h bs=>(h 0=.ptr 0 0 2∧h 7=.int .i64 0∧h 8=.int .i64 rGetInt.1∧h 9=.int .i64 rGetInt.2.1∧h 10=.int .i64 s_)∧bs=[.cells true 2 [byts x0,.int .i64 x02]]) ?_ ?_
  ·skip;rcases isp H1 with ⟨c3,H1⟩|⟨c3,H1⟩;rotate_left
   ·skip;repeat apply TW.seq
    refine cf (f2 hh (decide_eq_false c3)) ?_;repeat apply TW.seq
    refine sk ?_;cases H1;exact ce hh ⟨kq hh,rfl⟩
   repeat apply TW.seq
   refine ct (f2 hh (decide_eq_true c3)) ?_;obtain ⟨r1,e4,H1⟩:=zad H1;repeat apply TW.seq
   refine rkc [0,7,8,9,10] [] [(.int .i64 r1,stL [.cells true 2 [byts x0,.int .i64 x02]])] hh ?_ ?_
   ·exact ⟨zau.call ((zkr ax hx k rGetInt.1 a r1 e4 ).call _),trivial⟩
   clear hh h;intro h hh;cases H1;exact ce hh ⟨kq hh,rfl⟩
  clear hh h;rintro h bs ⟨hh,rfl⟩;repeat apply TW.seq
  refine rk [0,7,8,9,10] [] hh ?_;clear hh h;intro h hh;repeat apply TW.seq
  refine rk [0,7,8,9,37] [] hh ?_;clear hh h;intro h hh;rcases isp H with ⟨c5,H⟩|⟨c5,H⟩;rotate_left
  ·skip;repeat apply TW.seq
   refine cf (f2 hh (decide_eq_false c5)) ?_;repeat apply TW.seq
   refine sk ?_;obtain ⟨g6,H⟩:=isg H;repeat apply TW.seq
   refine rk [8] [] (f3 hh (znm g6) (zh4 (T.int .u8) x0)) ?_;clear hh h;intro h hh;repeat apply TW.seq
   refine rk [6] [] hh ?_;clear hh h;intro h hh;cases H;exact rtB hh
  repeat apply TW.seq
  refine ct (f2 hh (decide_eq_true c5)) ?_;repeat apply TW.seq
  refine rk [6] [] hh ?_;clear hh h;intro h hh;cases H;exact rtB hh
 repeat apply TW.seq
 refine ct (f2 hh (decide_eq_true c1)) ?_;repeat apply TW.seq
 refine rk [6] [] hh ?_;clear hh h;intro h hh;cases H;exact rtB hh
def zdg (k:Nat) (a:Int) (x0:List Int) (x02:Int):Option (Int×List Int×Int):=(if x02≠0 then some (0,x0,x02) else ((zbh k x0).bind fun rGetInt=>(((if rGetInt.2.2=0 then ((zg0 k rGetInt.1 a).bind fun r1=>some r1) else some rGetInt.2.2):Option Int).bind fun s_=>(if s_≠0 then some (0,x0,s_) else (if (0:Int)≤rGetInt.2.1∧rGetInt.2.1≤(x0.length:Int) then some (rGetInt.1,x0.drop rGetInt.2.1.toNat,s_) else none)))))
set_option maxHeartbeats 8000000 in
theorem zkl (ax:Axs) (hx:zb7 ax) (k:Nat) (a:Int) (x0:List Int) (x02:Int) (v:Int×List Int×Int) (H:zdg k a x0 x02=some v):Call Tryz.prog (EE ax) [] 91 [.ptr 0 0 2,.fn 92 [] [],.fn 131 [] [.cp [.int .i64 a]]] (stL [.cells true 2 [byts x0,.int .i64 x02]]) (tupT [.int .i64 v.1]) (stL [.cells true 2 [byts v.2.1,.int .i64 v.2.2]]):=by
 rw [zdg] at H;refine enB [.tmp 6] 49 [0,1,2] (hx.no _ (by decide)) (fn91 ax) ?_;intro h hh;repeat apply TW.seq
 refine rk [0,1,2] [] hh ?_;clear hh h;intro h hh;repeat apply TW.seq
 refine rk [0,1,2,7] [] hh ?_;clear hh h;intro h hh;repeat apply TW.seq
 refine rk [0,1,2,7,15] [] hh ?_;clear hh h;intro h hh;rcases isp H with ⟨c1,H⟩|⟨c1,H⟩;rotate_left
 ·skip;repeat apply TW.seq
  refine cf (f2 hh (decide_eq_false c1)) ?_;repeat apply TW.seq
  refine sk ?_;obtain ⟨rGetInt,e2,H⟩:=zad H;repeat apply TW.seq
  refine rkc [0,2,7,8,9,10] [] [(.tup [.int .i64 rGetInt.1,.int .i64 rGetInt.2.1,.int .i64 rGetInt.2.2],stL [.cells true 2 [byts x0,.int .i64 x02]])] hh ?_ ?_
  ·exact ⟨zau.call ((zd4 ax hx k x0 rGetInt e2 ).call _),trivial⟩
  clear hh h;intro h hh;repeat apply TW.seq
  refine rk [0,2,7,8,9,10,28] [] hh ?_;clear hh h;intro h hh;obtain ⟨s_,H1,H⟩:=zad H;repeat apply TW.seq
  refine cu [0,7,8,9,10] 1 (fun h bs=>(h 0=.ptr 0 0 2∧h 7=.int .i64 0∧h 8=.int .i64 rGetInt.1∧h 9=.int .i64 rGetInt.2.1∧h 10=.int .i64 s_)∧bs=[.cells true 2 [byts x0,.int .i64 x02]]) ?_ ?_
  ·skip;rcases isp H1 with ⟨c3,H1⟩|⟨c3,H1⟩;rotate_left
   ·skip;repeat apply TW.seq
    refine cf (f2 hh (decide_eq_false c3)) ?_;repeat apply TW.seq
    refine sk ?_;cases H1;exact ce hh ⟨kq hh,rfl⟩
   repeat apply TW.seq
   refine ct (f2 hh (decide_eq_true c3)) ?_;obtain ⟨r1,e4,H1⟩:=zad H1;repeat apply TW.seq
   refine rkc [0,7,8,9,10] [] [(.int .i64 r1,stL [.cells true 2 [byts x0,.int .i64 x02]])] hh ?_ ?_
   ·exact ⟨zau.call ((zlw ax hx k rGetInt.1 a r1 e4 ).call _),trivial⟩
   clear hh h;intro h hh;cases H1;exact ce hh ⟨kq hh,rfl⟩
  clear hh h;rintro h bs ⟨hh,rfl⟩;repeat apply TW.seq
  refine rk [0,7,8,9,10] [] hh ?_;clear hh h;intro h hh;repeat apply TW.seq
  refine rk [0,7,8,9,37] [] hh ?_;clear hh h;intro h hh;rcases isp H with ⟨c5,H⟩|⟨c5,H⟩;rotate_left
  ·skip;repeat apply TW.seq
   refine cf (f2 hh (decide_eq_false c5)) ?_;repeat apply TW.seq
   refine sk ?_;obtain ⟨g6,H⟩:=isg H;repeat apply TW.seq
   refine rk [8] [] (f3 hh (znm g6) (zh4 (T.int .u8) x0)) ?_;clear hh h;intro h hh;repeat apply TW.seq
   refine rk [6] [] hh ?_;clear hh h;intro h hh;cases H;exact rtB hh
  repeat apply TW.seq
  refine ct (f2 hh (decide_eq_true c5)) ?_;repeat apply TW.seq
  refine rk [6] [] hh ?_;clear hh h;intro h hh;cases H;exact rtB hh
 repeat apply TW.seq
 refine ct (f2 hh (decide_eq_true c1)) ?_;repeat apply TW.seq
 refine rk [6] [] hh ?_;clear hh h;intro h hh;cases H;exact rtB hh
def zco (k:Nat) (x0:List Int) (x02:Int):Option (Int×List Int×Int):=(if x02≠0 then some (0,x0,x02) else ((zbh k x0).bind fun rGetInt=>(((if rGetInt.2.2=0 then ((zgg k rGetInt.1).bind fun r1=>some r1) else some rGetInt.2.2):Option Int).bind fun s_=>(if s_≠0 then some (0,x0,s_) else (if (0:Int)≤rGetInt.2.1∧rGetInt.2.1≤(x0.length:Int) then some (rGetInt.1,x0.drop rGetInt.2.1.toNat,s_) else none)))))
set_option maxHeartbeats 8000000 in
theorem zkk (ax:Axs) (hx:zb7 ax) (k:Nat) (x0:List Int) (x02:Int) (v:Int×List Int×Int) (H:zco k x0 x02=some v):Call Tryz.prog (EE ax) [] 91 [.ptr 0 0 2,.fn 92 [] [],.fn 82 [] []] (stL [.cells true 2 [byts x0,.int .i64 x02]]) (tupT [.int .i64 v.1]) (stL [.cells true 2 [byts v.2.1,.int .i64 v.2.2]]):=by
 rw [zco] at H;refine enB [.tmp 6] 49 [0,1,2] (hx.no _ (by decide)) (fn91 ax) ?_;intro h hh;repeat apply TW.seq
 refine rk [0,1,2] [] hh ?_;clear hh h;intro h hh;repeat apply TW.seq
 refine rk [0,1,2,7] [] hh ?_;clear hh h;intro h hh;repeat apply TW.seq
 refine rk [0,1,2,7,15] [] hh ?_;clear hh h;intro h hh;rcases isp H with ⟨c1,H⟩|⟨c1,H⟩;rotate_left
 ·skip;repeat apply TW.seq
  refine cf (f2 hh (decide_eq_false c1)) ?_;repeat apply TW.seq
  refine sk ?_;obtain ⟨rGetInt,e2,H⟩:=zad H;repeat apply TW.seq
  refine rkc [0,2,7,8,9,10] [] [(.tup [.int .i64 rGetInt.1,.int .i64 rGetInt.2.1,.int .i64 rGetInt.2.2],stL [.cells true 2 [byts x0,.int .i64 x02]])] hh ?_ ?_
  ·exact ⟨zau.call ((zd4 ax hx k x0 rGetInt e2 ).call _),trivial⟩
  clear hh h;intro h hh;repeat apply TW.seq
  refine rk [0,2,7,8,9,10,28] [] hh ?_;clear hh h;intro h hh;obtain ⟨s_,H1,H⟩:=zad H;repeat apply TW.seq
  refine cu [0,7,8,9,10] 1 (fun h bs=>(h 0=.ptr 0 0 2∧h 7=.int .i64 0∧h 8=.int .i64 rGetInt.1∧h 9=.int .i64 rGetInt.2.1∧h 10=.int .i64 s_)∧bs=[.cells true 2 [byts x0,.int .i64 x02]]) ?_ ?_
  ·skip;rcases isp H1 with ⟨c3,H1⟩|⟨c3,H1⟩;rotate_left
   ·skip;repeat apply TW.seq
    refine cf (f2 hh (decide_eq_false c3)) ?_;repeat apply TW.seq
    refine sk ?_;cases H1;exact ce hh ⟨kq hh,rfl⟩
   repeat apply TW.seq
   refine ct (f2 hh (decide_eq_true c3)) ?_;obtain ⟨r1,e4,H1⟩:=zad H1;repeat apply TW.seq
   refine rkc [0,7,8,9,10] [] [(.int .i64 r1,stL [.cells true 2 [byts x0,.int .i64 x02]])] hh ?_ ?_
   ·exact ⟨zau.call ((zmp ax hx k rGetInt.1 r1 e4 ).call _),trivial⟩
   clear hh h;intro h hh;cases H1;exact ce hh ⟨kq hh,rfl⟩
  clear hh h;rintro h bs ⟨hh,rfl⟩;repeat apply TW.seq
  refine rk [0,7,8,9,10] [] hh ?_;clear hh h;intro h hh;repeat apply TW.seq
  refine rk [0,7,8,9,37] [] hh ?_;clear hh h;intro h hh;rcases isp H with ⟨c5,H⟩|⟨c5,H⟩;rotate_left
  ·skip;repeat apply TW.seq
   refine cf (f2 hh (decide_eq_false c5)) ?_;repeat apply TW.seq
   refine sk ?_;obtain ⟨g6,H⟩:=isg H;repeat apply TW.seq
   refine rk [8] [] (f3 hh (znm g6) (zh4 (T.int .u8) x0)) ?_;clear hh h;intro h hh;repeat apply TW.seq
   refine rk [6] [] hh ?_;clear hh h;intro h hh;cases H;exact rtB hh
  repeat apply TW.seq
  refine ct (f2 hh (decide_eq_true c5)) ?_;repeat apply TW.seq
  refine rk [6] [] hh ?_;clear hh h;intro h hh;cases H;exact rtB hh
 repeat apply TW.seq
 refine ct (f2 hh (decide_eq_true c1)) ?_;repeat apply TW.seq
 refine rk [6] [] hh ?_;clear hh h;intro h hh;cases H;exact rtB hh
def zck (k:Nat) (x1:List Int) (x12:Int):Option (Alt×List Int×Int):=((zco k x1 x12).bind fun rb3=>((zam k rb3.2.1 rb3.2.2).bind fun rb=>((zam k rb.2.1 rb.2.2).bind fun rb2=>some ((⟨rb3.1,(⟨rb.1,rb2.1⟩:Pat)⟩:Alt),rb2.2.1,rb2.2.2))))
set_option maxHeartbeats 8000000 in
theorem zi8 (ax:Axs) (hx:zb7 ax) (k:Nat) (x1:List Int) (x12:Int) (v:Alt×List Int×Int) (H:zck k x1 x12=some v):Call Tryz.prog (EE ax) [] 90 [.ptr 0 0 1,.cp [.fn 82 [] []]] (stL [.cells true 1 [.ptr 1 0 2],.cells true 2 [byts x1,.int .i64 x12]]) (tupT [eAlt v.1]) (stL [.cells true 1 [.ptr 1 0 2],.cells true 2 [byts v.2.1,.int .i64 v.2.2]]):=by
 rw [zck] at H;refine enB [.cell 2 94] 17 [0,1] (hx.no _ (by decide)) (fn90 ax) ?_;intro h hh;repeat apply TW.seq
 refine rk [0,1,2] [] hh ?_;clear hh h;intro h hh;obtain ⟨rb3,e1,H⟩:=zad H;repeat apply TW.seq
 refine rkc [0,2,3] [] [(.int .i64 rb3.1,stL [.cells true 1 [.ptr 1 0 2],.cells true 2 [byts rb3.2.1,.int .i64 rb3.2.2],.cells true 21 (T.int .i64 0 :: ((zA 10).l.map (T.int .i64)++((zA 10).l.map (T.int .i64))))])] (f2 hh ykj) ?_ ?_
 ·exact ⟨ca [1] (zkk ax hx k x1 x12 rb3 e1),trivial⟩
 clear hh h;intro h hh;obtain ⟨rb,e2,H⟩:=zad H;repeat apply TW.seq
 refine rkc [0,2,3] [] [(.agg (rb.1.l.map (T.int .i64)),stL [.cells true 1 [.ptr 1 0 2],.cells true 2 [byts rb.2.1,.int .i64 rb.2.2],.cells true 21 (T.int .i64 0 :: ((zA 10).l.map (T.int .i64)++((zA 10).l.map (T.int .i64)))),.cells true 21 (T.int .i64 rb3.1 :: ((zA 10).l.map (T.int .i64)++((zA 10).l.map (T.int .i64))))])] hh ?_ ?_
 ·exact ⟨ca [1] (zcy ax hx k rb3.2.1 rb3.2.2 rb e2),trivial⟩
 clear hh h;intro h hh;obtain ⟨rb2,e3,H⟩:=zad H;repeat apply TW.seq
 refine rkc [2,3] [] [(.agg (rb2.1.l.map (T.int .i64)),stL [.cells true 1 [.ptr 1 0 2],.cells true 2 [byts rb2.2.1,.int .i64 rb2.2.2],.cells true 21 (T.int .i64 0 :: ((zA 10).l.map (T.int .i64)++((zA 10).l.map (T.int .i64)))),.cells true 21 (T.int .i64 rb3.1 :: (rb.1.l.map (T.int .i64)++((zA 10).l.map (T.int .i64))))])] hh ?_ ?_
 ·exact ⟨ca [1] (zcy ax hx k rb.2.1 rb.2.2 rb2 e3),trivial⟩
 clear hh h;intro h hh;repeat apply TW.seq
 refine rk [2] [] hh ?_;clear hh h;intro h hh;cases H;exact rtBc hh
def za3 (k:Nat)  : Nat→Int→(List Int)→Int→(List Alt)→Nat→Option (List Int×Int×List Alt×Nat)
 |0,_,_,_,_,_=>none
 |m+1,n,x,x2,l,n2=>(((if 0<n then some (decide (x2=0)) else some false):Option Bool).bind fun s_2=>(if s_2=true then ((zck k x x2).bind fun rb=>(if (n2+1)*169≤1000000000 then za3 k  m (IntKind.i64.wrap (n - 1)) rb.2.1 rb.2.2 (l++[rb.1]) (n2+1) else none)) else some (x,x2,l,n2)))
def zbs (k:Nat) (most:Int) (x0:List Int) (x02:Int):Option (List Alt×List Int×Int):=((zdg k most x0 x02).bind fun rb2=>((za3 k  k rb2.1 rb2.2.1 rb2.2.2 [] 0:Option (List Int×Int×List Alt×Nat)).bind fun s_=>(if s_.2.2.1.length=s_.2.2.2 then some (s_.2.2.1,s_.1,s_.2.1) else none)))
set_option maxHeartbeats 8000000 in
theorem zlv (ax:Axs) (hx:zb7 ax) (k:Nat) (most:Int) (x0:List Int) (x02:Int) (v:List Alt×List Int×Int) (H:zbs k most x0 x02=some v):Call Tryz.prog (EE ax) [] 89 [.ptr 0 0 2,.int .i64 most,.fn 90 [] [.ptr 1 0 1,.cp [.fn 82 [] []]]] (stL [.cells true 2 [byts x0,.int .i64 x02],.cells true 1 [.ptr 0 0 2]]) (tupT [lAlt v.1]) (stL [.cells true 2 [byts v.2.1,.int .i64 v.2.2],.cells true 1 [.ptr 0 0 2]]):=by
 rw [zbs] at H;refine enB [.tmp 6] 29 [0,1,2] (hx.no _ (by decide)) (fn89 ax) ?_;intro h hh;repeat apply TW.seq
 refine rk [0,2,4] [] hh ?_;clear hh h;intro h hh;refine zk 4 2 1 true [.int .i64 most] [0,2,4] hh ?_;clear hh h;intro h hh;obtain ⟨rb2,e1,H⟩:=zad H;repeat apply TW.seq
 refine rkc [0,2,7] [] [(.int .i64 rb2.1,stL [.cells true 2 [byts rb2.2.1,.int .i64 rb2.2.2],.cells true 1 [.ptr 0 0 2],.gone])] hh ?_ ?_
 ·exact ⟨ca [0] (zkl ax hx k most x0 x02 rb2 e1),trivial⟩
 clear hh h;intro h hh;repeat apply TW.seq
 refine rk [0,2,7,8] [] hh ?_;clear hh h;intro h hh;refine vk 8 21 [0,2,7,8] hh ?_;clear hh h;intro h hh;obtain ⟨s_,H1,H⟩:=zad H;repeat apply TW.seq
 refine cu [8] 4 (fun h bs=>(h 8=.arr 3 21 0 s_.2.2.2 s_.2.2.2 (s_.2.2.2*21))∧bs=[.cells true 2 [byts s_.1,.int .i64 s_.2.1],.cells true 1 [.ptr 0 0 2],.gone,.cells false (s_.2.2.2*21) (vecC eAlt s_.2.2.1)]) ?_ ?_
 ·skip;repeat apply TW.seq
  apply TW.block;repeat apply TW.seq
  refine TW.loopT [0,2,7,8] (fun m h bs=>∃ (n:Int) (x:List Int) (x2:Int) (l:List Alt) (n2:Nat),za3 k  m n x x2 l n2=some s_∧(h 0=.ptr 0 0 2∧h 2=.fn 90 [] [.ptr 1 0 1,.cp [.fn 82 [] []]]∧h 7=.int .i64 n∧h 8=.arr 3 21 0 n2 n2 (n2*21))∧bs=[.cells true 2 [byts x,.int .i64 x2],.cells true 1 [.ptr 0 0 2],.gone,.cells false (n2*21) (vecC eAlt l)]) ?_ k _ _ ?_;rotate_left
  ·exact ⟨rb2.1,rb2.2.1,rb2.2.2,[],0,H1,kq hh,rfl⟩
  clear hh h H1;rintro m h bs ⟨n,x,x2,l,n2,H1,hh,rfl⟩;rcases m with _|m
  ·rw [za3] at H1;cases H1
  rw [za3] at H1;obtain ⟨s_2,H2,H1⟩:=zad H1;repeat apply TW.seq
  refine cu [0,2,7,8,20] 4 (fun h bs=>(h 0=.ptr 0 0 2∧h 2=.fn 90 [] [.ptr 1 0 1,.cp [.fn 82 [] []]]∧h 7=.int .i64 n∧h 8=.arr 3 21 0 n2 n2 (n2*21)∧h 20=.bool s_2)∧bs=[.cells true 2 [byts x,.int .i64 x2],.cells true 1 [.ptr 0 0 2],.gone,.cells false (n2*21) (vecC eAlt l)]) ?_ ?_
  ·skip;rcases isp H2 with ⟨c2,H2⟩|⟨c2,H2⟩;rotate_left
   ·skip;repeat apply TW.seq
    refine rk [0,2,7,8,20] [] (f2 hh (decide_eq_false c2)) ?_;clear hh h;intro h hh;cases H2;exact ce hh ⟨kq hh,rfl⟩
   repeat apply TW.seq
   refine rk [0,2,7,8,20] [] (f2 hh (decide_eq_true c2)) ?_;clear hh h;intro h hh;cases H2;exact ce hh ⟨kq hh,rfl⟩
  clear hh h;rintro h bs ⟨hh,rfl⟩;rcases isb H1 with ⟨c3,H1⟩|⟨c3,H1⟩;rotate_left
  ·skip;repeat apply TW.seq
   refine cf (f2 hh c3) ?_;refine xk ?_;cases H1;exact ce hh ⟨kq hh,rfl⟩
  repeat apply TW.seq
  refine ct (f2 hh c3) ?_;repeat apply TW.seq
  refine sk ?_;repeat apply TW.seq
  apply TW.block;obtain ⟨rb,e4,H1⟩:=zad H1;obtain ⟨g5,H1⟩:=isg H1;repeat apply TW.seq
  refine rg [] [(eAlt rb.1,stL [.cells true 2 [byts rb.2.1,.int .i64 rb.2.2],.cells true 1 [.ptr 0 0 2],.gone,.cells false (n2*21) (vecC eAlt l)])] [.cells true 2 [byts rb.2.1,.int .i64 rb.2.2],.cells true 1 [.ptr 0 0 2],.gone,.cells false ((n2+1)*21) (vecC eAlt (l++[rb.1]))] (fun h=>h 0=.ptr 0 0 2∧h 2=.fn 90 [] [.ptr 1 0 1,.cp [.fn 82 [] []]]∧h 7=.int .i64 n∧h 8=.arr 3 21 0 (n2+1) (n2+1) ((n2+1)*21)) (f3 hh c3 ((show vecC eAlt [rb.1]=(T.int .i64 rb.1.link :: (rb.1.mod.mask.l.map (T.int .i64)++(rb.1.mod.bits.l.map (T.int .i64)))) from zpd.trans rfl))) ?_ ?_
  ·exact ⟨ca [1,0] (zi8 ax hx k x x2 rb e4),trivial⟩
  clear hh h;intro h hh;repeat apply TW.seq
  refine rk [0,2,7,8] [] (f2 hh c3) ?_;clear hh h;intro h hh;exact rd m hh ⟨(IntKind.i64.wrap (n - 1)),rb.2.1,rb.2.2,(l++[rb.1]),(n2+1),H1,kq hh,rfl⟩
 clear hh h;rintro h bs ⟨hh,rfl⟩;repeat apply TW.seq
 refine rk [6] [] hh ?_;clear hh h;intro h hh;obtain ⟨g6,H⟩:=isg H;refine TW.freeze 6 (b:=3) (e:=21) (off:=0) (len:=s_.2.2.2) (cap:=s_.2.2.2) (M:=(s_.2.2.2*21)) (s_.2.2.1.map eAlt) (kq hh) (by rfl) (by omega) (by omega) (by rw [List.drop_zero];exact zml (fun x=>zbz x) g6) (fun t ht=>by obtain ⟨x,_,rfl⟩:=List.mem_map.1 ht;first|rfl|exact zd2 _|exact zci _|exact zbz _|exact zbe _ | (rw [List.length_map];rfl)) (by rw [List.length_map];exact g6) (by omega) ?_;rw [zeb _ _ _ (by simp only [lzA]<;>omega)];simp only [scA];refine gk [6] hh ?_;clear hh h;intro h hh;cases H;exact rtB hh
def zc6 (k:Nat) (x1:List Int) (x12:Int):Option (List Alt×List Int×Int):=((zbs k 8 x1 x12).bind fun rb=>some (rb.1,rb.2.1,rb.2.2))
set_option maxHeartbeats 8000000 in
theorem zkc (ax:Axs) (hx:zb7 ax) (k:Nat) (x1:List Int) (x12:Int) (v:List Alt×List Int×Int) (H:zc6 k x1 x12=some v):Call Tryz.prog (EE ax) [] 88 [.ptr 0 0 1,.cp [.fn 82 [] []]] (stL [.cells true 1 [.ptr 1 0 2],.cells true 2 [byts x1,.int .i64 x12]]) (tupT [lAlt v.1]) (stL [.cells true 1 [.ptr 1 0 2],.cells true 2 [byts v.2.1,.int .i64 v.2.2]]):=by
 rw [zc6] at H;refine enB [.tmp 2] 6 [0,1] (hx.no _ (by decide)) (fn88 ax) ?_;intro h hh;repeat apply TW.seq
 refine rk [0,1] [] hh ?_;clear hh h;intro h hh;obtain ⟨rb,e1,H⟩:=zad H;repeat apply TW.seq
 refine rkc [2] [] [(lAlt rb.1,stL [.cells true 1 [.ptr 1 0 2],.cells true 2 [byts rb.2.1,.int .i64 rb.2.2]])] hh ?_ ?_
 ·exact ⟨ca [1,0] (zlv ax hx k 8 x1 x12 rb e1),trivial⟩
 clear hh h;intro h hh;cases H;exact rtB hh
def za0 (k:Nat)  : Nat→Int→(List Int)→Int→(List (List Alt))→Nat→Option (List Int×Int×List (List Alt)×Nat)
 |0,_,_,_,_,_=>none
 |m+1,n,x,x2,l,n2=>(((if 0<n then some (decide (x2=0)) else some false):Option Bool).bind fun s_2=>(if s_2=true then ((zc6 k x x2).bind fun rb=>(if (n2+1)*25≤1000000000 then za0 k  m (IntKind.i64.wrap (n - 1)) rb.2.1 rb.2.2 (l++[rb.1]) (n2+1) else none)) else some (x,x2,l,n2)))
def zcp (k:Nat) (most:Int) (x0:List Int) (x02:Int):Option (List (List Alt)×List Int×Int):=((zdh k most x0 x02).bind fun rb1=>((za0 k  k rb1.1 rb1.2.1 rb1.2.2 [] 0:Option (List Int×Int×List (List Alt)×Nat)).bind fun s_=>(if s_.2.2.1.length=s_.2.2.2 then some (s_.2.2.1,s_.1,s_.2.1) else none)))
set_option maxHeartbeats 8000000 in
theorem zkq (ax:Axs) (hx:zb7 ax) (k:Nat) (most:Int) (x0:List Int) (x02:Int) (v:List (List Alt)×List Int×Int) (H:zcp k most x0 x02=some v):Call Tryz.prog (EE ax) [] 87 [.ptr 0 0 2,.int .i64 most,.fn 88 [] [.ptr 1 0 1,.cp [.fn 82 [] []]]] (stL [.cells true 2 [byts x0,.int .i64 x02],.cells true 1 [.ptr 0 0 2]]) (tupT [zaj v.1]) (stL [.cells true 2 [byts v.2.1,.int .i64 v.2.2],.cells true 1 [.ptr 0 0 2]]):=by
 rw [zcp] at H;refine enB [.tmp 6] 29 [0,1,2] (hx.no _ (by decide)) (fn87 ax) ?_;intro h hh;repeat apply TW.seq
 refine rk [0,2,4] [] hh ?_;clear hh h;intro h hh;refine zk 4 2 1 true [.int .i64 most] [0,2,4] hh ?_;clear hh h;intro h hh;obtain ⟨rb1,e1,H⟩:=zad H;repeat apply TW.seq
 refine rkc [0,2,7] [] [(.int .i64 rb1.1,stL [.cells true 2 [byts rb1.2.1,.int .i64 rb1.2.2],.cells true 1 [.ptr 0 0 2],.gone])] hh ?_ ?_
 ·exact ⟨ca [0] (zkm ax hx k most x0 x02 rb1 e1),trivial⟩
 clear hh h;intro h hh;repeat apply TW.seq
 refine rk [0,2,7,8] [] hh ?_;clear hh h;intro h hh;refine vk 8 1 [0,2,7,8] hh ?_;clear hh h;intro h hh;obtain ⟨s_,H1,H⟩:=zad H;repeat apply TW.seq
 refine cu [8] 4 (fun h bs=>(h 8=.arr 3 1 0 s_.2.2.2 s_.2.2.2 s_.2.2.2)∧bs=[.cells true 2 [byts s_.1,.int .i64 s_.2.1],.cells true 1 [.ptr 0 0 2],.gone,.cells false s_.2.2.2 (s_.2.2.1.map lAlt)]) ?_ ?_
 ·skip;repeat apply TW.seq
  apply TW.block;repeat apply TW.seq
  refine TW.loopT [0,2,7,8] (fun m h bs=>∃ (n:Int) (x:List Int) (x2:Int) (l:List (List Alt)) (n2:Nat),za0 k  m n x x2 l n2=some s_∧(h 0=.ptr 0 0 2∧h 2=.fn 88 [] [.ptr 1 0 1,.cp [.fn 82 [] []]]∧h 7=.int .i64 n∧h 8=.arr 3 1 0 n2 n2 n2)∧bs=[.cells true 2 [byts x,.int .i64 x2],.cells true 1 [.ptr 0 0 2],.gone,.cells false n2 (l.map lAlt)]) ?_ k _ _ ?_;rotate_left
  ·exact ⟨rb1.1,rb1.2.1,rb1.2.2,[],0,H1,kq hh,rfl⟩
  clear hh h H1;rintro m h bs ⟨n,x,x2,l,n2,H1,hh,rfl⟩;rcases m with _|m
  ·rw [za0] at H1;cases H1
  rw [za0] at H1;obtain ⟨s_2,H2,H1⟩:=zad H1;repeat apply TW.seq
  refine cu [0,2,7,8,20] 4 (fun h bs=>(h 0=.ptr 0 0 2∧h 2=.fn 88 [] [.ptr 1 0 1,.cp [.fn 82 [] []]]∧h 7=.int .i64 n∧h 8=.arr 3 1 0 n2 n2 n2∧h 20=.bool s_2)∧bs=[.cells true 2 [byts x,.int .i64 x2],.cells true 1 [.ptr 0 0 2],.gone,.cells false n2 (l.map lAlt)]) ?_ ?_
  ·skip;rcases isp H2 with ⟨c2,H2⟩|⟨c2,H2⟩;rotate_left
   ·skip;repeat apply TW.seq
    refine rk [0,2,7,8,20] [] (f2 hh (decide_eq_false c2)) ?_;clear hh h;intro h hh;cases H2;exact ce hh ⟨kq hh,rfl⟩
   repeat apply TW.seq
   refine rk [0,2,7,8,20] [] (f2 hh (decide_eq_true c2)) ?_;clear hh h;intro h hh;cases H2;exact ce hh ⟨kq hh,rfl⟩
  clear hh h;rintro h bs ⟨hh,rfl⟩;rcases isb H1 with ⟨c3,H1⟩|⟨c3,H1⟩;rotate_left
  ·skip;repeat apply TW.seq
   refine cf (f2 hh c3) ?_;refine xk ?_;cases H1;exact ce hh ⟨kq hh,rfl⟩
  repeat apply TW.seq
  refine ct (f2 hh c3) ?_;repeat apply TW.seq
  refine sk ?_;repeat apply TW.seq
  apply TW.block;obtain ⟨rb,e4,H1⟩:=zad H1;obtain ⟨g5,H1⟩:=isg H1;repeat apply TW.seq
  refine rg [] [(lAlt rb.1,stL [.cells true 2 [byts rb.2.1,.int .i64 rb.2.2],.cells true 1 [.ptr 0 0 2],.gone,.cells false n2 (l.map lAlt)])] [.cells true 2 [byts rb.2.1,.int .i64 rb.2.2],.cells true 1 [.ptr 0 0 2],.gone,.cells false (n2+1) ((l++[rb.1]).map lAlt)] (fun h=>h 0=.ptr 0 0 2∧h 2=.fn 88 [] [.ptr 1 0 1,.cp [.fn 82 [] []]]∧h 7=.int .i64 n∧h 8=.arr 3 1 0 (n2+1) (n2+1) (n2+1)) (f3 hh c3 (f2 (el42 ax) (sr42 ax))) ?_ ?_
  ·exact ⟨ca [1,0] (zkc ax hx k x x2 rb e4),trivial⟩
  clear hh h;intro h hh;repeat apply TW.seq
  refine rk [0,2,7,8] [] (f2 hh c3) ?_;clear hh h;intro h hh;exact rd m hh ⟨(IntKind.i64.wrap (n - 1)),rb.2.1,rb.2.2,(l++[rb.1]),(n2+1),H1,kq hh,rfl⟩
 clear hh h;rintro h bs ⟨hh,rfl⟩;repeat apply TW.seq
 refine rk [6] [] hh ?_;clear hh h;intro h hh;obtain ⟨g6,H⟩:=isg H;refine TW.freeze 6 (b:=3) (e:=1) (off:=0) (len:=s_.2.2.2) (cap:=s_.2.2.2) (M:=s_.2.2.2) (s_.2.2.1.map lAlt) (kq hh) (by rfl) (by omega) (by omega) (by rw [List.drop_zero,Nat.mul_one,zbv (fun _=>rfl),List.take_of_length_le (by rw [List.length_map];omega)]) (fun t ht=>by obtain ⟨x,_,rfl⟩:=List.mem_map.1 ht;first|rfl|exact zd2 _|exact zci _|exact zbz _|exact zbe _ | (rw [List.length_map];rfl)) (by rw [List.length_map];exact g6) (by omega) ?_;rw [zeb _ _ _ (by simp only [lzA]<;>omega)];simp only [scA];refine gk [6] hh ?_;clear hh h;intro h hh;cases H;exact rtB hh
def zd5 (k:Nat) (x1:List Int) (x12:Int):Option (Rule×List Int×Int):=((zal k 2 x1 x12).bind fun rb=>(if (0:Int)≤0∧0<(rb.1.length:Int) then (if (0:Int)≤1∧1<(rb.1.length:Int) then ((zam k rb.2.1 rb.2.2).bind fun rb2=>((zam k rb2.2.1 rb2.2.2).bind fun rb3=>((zcp k 16 rb3.2.1 rb3.2.2).bind fun rb4=>some ((⟨gx rb.1 0,(⟨rb2.1,rb3.1⟩:Pat),gx rb.1 1,rb4.1⟩:Rule),rb4.2.1,rb4.2.2)))) else none) else none))
set_option maxHeartbeats 8000000 in
theorem zlx (ax:Axs) (hx:zb7 ax) (k:Nat) (x1:List Int) (x12:Int) (v:Rule×List Int×Int) (H:zd5 k x1 x12=some v):Call Tryz.prog (EE ax) [] 84 [.ptr 0 0 1,.cp [.fn 82 [] []]] (stL [.cells true 1 [.ptr 1 0 2],.cells true 2 [byts x1,.int .i64 x12]]) (tupT [zb6 v.1]) (stL [.cells true 1 [.ptr 1 0 2],.cells true 2 [byts v.2.1,.int .i64 v.2.2]]):=by
 rw [zd5] at H;refine enB [.cell 2 44] 27 [0,1] (hx.no _ (by decide)) (fn84 ax) ?_;intro h hh;repeat apply TW.seq
 refine rk [0,1,2] [] hh ?_;clear hh h;intro h hh;obtain ⟨rb,e1,H⟩:=zad H;repeat apply TW.seq
 refine rkc [0,1,2,3] [] [(ints rb.1,stL [.cells true 1 [.ptr 1 0 2],.cells true 2 [byts rb.2.1,.int .i64 rb.2.2],.cells true 23 (T.int .i64 0 :: ((zA 10).l.map (T.int .i64)++((zA 10).l.map (T.int .i64)++[T.int .i64 0,T.nils])))])] hh ?_ ?_
 ·exact ⟨ca [1] (zge ax hx k 2 x1 x12 rb e1),trivial⟩
 clear hh h;intro h hh;obtain ⟨g2,H⟩:=isg H;obtain ⟨g3,H⟩:=isg H;repeat apply TW.seq
 refine dk 6 [0,1,2,4] [] [] [] (f3 hh (za7 g2) (za7 g3)) trivial trivial ?_;clear hh h;intro h hh;obtain ⟨rb2,e4,H⟩:=zad H;repeat apply TW.seq
 refine rkc [0,1,2,4] [] [(.agg (rb2.1.l.map (T.int .i64)),stL [.cells true 1 [.ptr 1 0 2],.cells true 2 [byts rb2.2.1,.int .i64 rb2.2.2],.cells true 23 (T.int .i64 0 :: ((zA 10).l.map (T.int .i64)++((zA 10).l.map (T.int .i64)++[T.int .i64 0,T.nils]))),.cells true 23 (T.int .i64 (gx rb.1 0) :: ((zA 10).l.map (T.int .i64)++((zA 10).l.map (T.int .i64)++[T.int .i64 (gx rb.1 1),T.nils])))])] hh ?_ ?_
 ·exact ⟨ca [1] (zcy ax hx k rb.2.1 rb.2.2 rb2 e4),trivial⟩
 clear hh h;intro h hh;obtain ⟨rb3,e5,H⟩:=zad H;repeat apply TW.seq
 refine rkc [0,1,2,4] [] [(.agg (rb3.1.l.map (T.int .i64)),stL [.cells true 1 [.ptr 1 0 2],.cells true 2 [byts rb3.2.1,.int .i64 rb3.2.2],.cells true 23 (T.int .i64 0 :: ((zA 10).l.map (T.int .i64)++((zA 10).l.map (T.int .i64)++[T.int .i64 0,T.nils]))),.cells true 23 (T.int .i64 (gx rb.1 0) :: (rb2.1.l.map (T.int .i64)++((zA 10).l.map (T.int .i64)++[T.int .i64 (gx rb.1 1),T.nils])))])] hh ?_ ?_
 ·exact ⟨ca [1] (zcy ax hx k rb2.2.1 rb2.2.2 rb3 e5),trivial⟩
 clear hh h;intro h hh;obtain ⟨rb4,e6,H⟩:=zad H;repeat apply TW.seq
 refine rkc [2,4] [] [(zaj rb4.1,stL [.cells true 1 [.ptr 1 0 2],.cells true 2 [byts rb4.2.1,.int .i64 rb4.2.2],.cells true 23 (T.int .i64 0 :: ((zA 10).l.map (T.int .i64)++((zA 10).l.map (T.int .i64)++[T.int .i64 0,T.nils]))),.cells true 23 (T.int .i64 (gx rb.1 0) :: (rb2.1.l.map (T.int .i64)++(rb3.1.l.map (T.int .i64)++[T.int .i64 (gx rb.1 1),T.nils])))])] hh ?_ ?_
 ·exact ⟨ca [1,0] (zkq ax hx k 16 rb3.2.1 rb3.2.2 rb4 e6),trivial⟩
 clear hh h;intro h hh;repeat apply TW.seq
 refine rk [2] [] hh ?_;clear hh h;intro h hh;cases H;exact rtBc hh
def zaz (k:Nat)  : Nat→Int→(List Int)→Int→(List Rule)→Nat→Option (List Int×Int×List Rule×Nat)
 |0,_,_,_,_,_=>none
 |m+1,n,x,x2,l,n2=>(((if 0<n then some (decide (x2=0)) else some false):Option Bool).bind fun s_2=>(if s_2=true then ((zd5 k x x2).bind fun rb2=>(if (n2+1)*201≤1000000000 then zaz k  m (IntKind.i64.wrap (n - 1)) rb2.2.1 rb2.2.2 (l++[rb2.1]) (n2+1) else none)) else some (x,x2,l,n2)))
def zdi (k:Nat) (most:Int) (x0:List Int) (x02:Int):Option (List Rule×List Int×Int):=((zc1 k most x0 x02).bind fun rb=>((zaz k  k rb.1 rb.2.1 rb.2.2 [] 0:Option (List Int×Int×List Rule×Nat)).bind fun s_=>(if s_.2.2.1.length=s_.2.2.2 then some (s_.2.2.1,s_.1,s_.2.1) else none)))
set_option maxHeartbeats 8000000 in
theorem zko (ax:Axs) (hx:zb7 ax) (k:Nat) (most:Int) (x0:List Int) (x02:Int) (v:List Rule×List Int×Int) (H:zdi k most x0 x02=some v):Call Tryz.prog (EE ax) [] 83 [.ptr 0 0 2,.int .i64 most,.fn 84 [] [.ptr 1 0 1,.cp [.fn 82 [] []]]] (stL [.cells true 2 [byts x0,.int .i64 x02],.cells true 1 [.ptr 0 0 2]]) (tupT [zat v.1]) (stL [.cells true 2 [byts v.2.1,.int .i64 v.2.2],.cells true 1 [.ptr 0 0 2]]):=by
 rw [zdi] at H;refine enB [.tmp 6] 29 [0,1,2] (hx.no _ (by decide)) (fn83 ax) ?_;intro h hh;repeat apply TW.seq
 refine rk [0,2,4] [] hh ?_;clear hh h;intro h hh;refine zk 4 2 1 true [.int .i64 most] [0,2,4] hh ?_;clear hh h;intro h hh;obtain ⟨rb,e1,H⟩:=zad H;repeat apply TW.seq
 refine rkc [0,2,7] [] [(.int .i64 rb.1,stL [.cells true 2 [byts rb.2.1,.int .i64 rb.2.2],.cells true 1 [.ptr 0 0 2],.gone])] hh ?_ ?_
 ·exact ⟨ca [0] (zlu ax hx k most x0 x02 rb e1),trivial⟩
 clear hh h;intro h hh;repeat apply TW.seq
 refine rk [0,2,7,8] [] hh ?_;clear hh h;intro h hh;refine vk 8 23 [0,2,7,8] hh ?_;clear hh h;intro h hh;obtain ⟨s_,H1,H⟩:=zad H;repeat apply TW.seq
 refine cu [8] 4 (fun h bs=>(h 8=.arr 3 23 0 s_.2.2.2 s_.2.2.2 (s_.2.2.2*23))∧bs=[.cells true 2 [byts s_.1,.int .i64 s_.2.1],.cells true 1 [.ptr 0 0 2],.gone,.cells false (s_.2.2.2*23) (vecC zb6 s_.2.2.1)]) ?_ ?_
 ·skip;repeat apply TW.seq
  apply TW.block;repeat apply TW.seq
  refine TW.loopT [0,2,7,8] (fun m h bs=>∃ (n:Int) (x:List Int) (x2:Int) (l:List Rule) (n2:Nat),zaz k  m n x x2 l n2=some s_∧(h 0=.ptr 0 0 2∧h 2=.fn 84 [] [.ptr 1 0 1,.cp [.fn 82 [] []]]∧h 7=.int .i64 n∧h 8=.arr 3 23 0 n2 n2 (n2*23))∧bs=[.cells true 2 [byts x,.int .i64 x2],.cells true 1 [.ptr 0 0 2],.gone,.cells false (n2*23) (vecC zb6 l)]) ?_ k _ _ ?_;rotate_left
  ·exact ⟨rb.1,rb.2.1,rb.2.2,[],0,H1,kq hh,rfl⟩
  clear hh h H1;rintro m h bs ⟨n,x,x2,l,n2,H1,hh,rfl⟩;rcases m with _|m
  ·rw [zaz] at H1;cases H1
  rw [zaz] at H1;obtain ⟨s_2,H2,H1⟩:=zad H1;repeat apply TW.seq
  refine cu [0,2,7,8,20] 4 (fun h bs=>(h 0=.ptr 0 0 2∧h 2=.fn 84 [] [.ptr 1 0 1,.cp [.fn 82 [] []]]∧h 7=.int .i64 n∧h 8=.arr 3 23 0 n2 n2 (n2*23)∧h 20=.bool s_2)∧bs=[.cells true 2 [byts x,.int .i64 x2],.cells true 1 [.ptr 0 0 2],.gone,.cells false (n2*23) (vecC zb6 l)]) ?_ ?_
  ·skip;rcases isp H2 with ⟨c2,H2⟩|⟨c2,H2⟩;rotate_left
   ·skip;repeat apply TW.seq
    refine rk [0,2,7,8,20] [] (f2 hh (decide_eq_false c2)) ?_;clear hh h;intro h hh;cases H2;exact ce hh ⟨kq hh,rfl⟩
   repeat apply TW.seq
   refine rk [0,2,7,8,20] [] (f2 hh (decide_eq_true c2)) ?_;clear hh h;intro h hh;cases H2;exact ce hh ⟨kq hh,rfl⟩
  clear hh h;rintro h bs ⟨hh,rfl⟩;rcases isb H1 with ⟨c3,H1⟩|⟨c3,H1⟩;rotate_left
  ·skip;repeat apply TW.seq
   refine cf (f2 hh c3) ?_;refine xk ?_;cases H1;exact ce hh ⟨kq hh,rfl⟩
  repeat apply TW.seq
  refine ct (f2 hh c3) ?_;repeat apply TW.seq
  refine sk ?_;repeat apply TW.seq
  apply TW.block;obtain ⟨rb2,e4,H1⟩:=zad H1;obtain ⟨g5,H1⟩:=isg H1;repeat apply TW.seq
  refine rg [] [(zb6 rb2.1,stL [.cells true 2 [byts rb2.2.1,.int .i64 rb2.2.2],.cells true 1 [.ptr 0 0 2],.gone,.cells false (n2*23) (vecC zb6 l)])] [.cells true 2 [byts rb2.2.1,.int .i64 rb2.2.2],.cells true 1 [.ptr 0 0 2],.gone,.cells false ((n2+1)*23) (vecC zb6 (l++[rb2.1]))] (fun h=>h 0=.ptr 0 0 2∧h 2=.fn 84 [] [.ptr 1 0 1,.cp [.fn 82 [] []]]∧h 7=.int .i64 n∧h 8=.arr 3 23 0 (n2+1) (n2+1) ((n2+1)*23)) (f3 hh c3 (f3 ((show vecC zb6 [rb2.1]=(T.int .i64 rb2.1.prio :: (rb2.1.mat.mask.l.map (T.int .i64)++(rb2.1.mat.bits.l.map (T.int .i64)++[T.int .i64 rb2.1.step,zaj rb2.1.outs]))) from zpd.trans rfl)) (el27 ax) (sr27 ax))) ?_ ?_
  ·exact ⟨ca [1,0] (zlx ax hx k x x2 rb2 e4),trivial⟩
  clear hh h;intro h hh;repeat apply TW.seq
  refine rk [0,2,7,8] [] (f2 hh c3) ?_;clear hh h;intro h hh;exact rd m hh ⟨(IntKind.i64.wrap (n - 1)),rb2.2.1,rb2.2.2,(l++[rb2.1]),(n2+1),H1,kq hh,rfl⟩
 clear hh h;rintro h bs ⟨hh,rfl⟩;repeat apply TW.seq
 refine rk [6] [] hh ?_;clear hh h;intro h hh;obtain ⟨g6,H⟩:=isg H;refine TW.freeze 6 (b:=3) (e:=23) (off:=0) (len:=s_.2.2.2) (cap:=s_.2.2.2) (M:=(s_.2.2.2*23)) (s_.2.2.1.map zb6) (kq hh) (by rfl) (by omega) (by omega) (by rw [List.drop_zero];exact zml (fun x=>zbe x) g6) (fun t ht=>by obtain ⟨x,_,rfl⟩:=List.mem_map.1 ht;first|rfl|exact zd2 _|exact zci _|exact zbz _|exact zbe _ | (rw [List.length_map];rfl)) (by rw [List.length_map];exact g6) (by omega) ?_;rw [zeb _ _ _ (by simp only [lzA]<;>omega)];simp only [scA];refine gk [6] hh ?_;clear hh h;intro h hh;cases H;exact rtB hh
def zfd (k:Nat) (b:List Int):Option (List Rule×Int):=((zdi k 4000 b 0).bind fun rb=>(((if rb.2.2=0 then some (decide (0<(rb.2.1.length:Int))) else some false):Option Bool).bind fun s_=>(((if s_=true then some 6 else some rb.2.2):Option Int).bind fun s_2=>(if s_2≠0 then some ([],s_2) else some (rb.1,0)))))
set_option maxHeartbeats 8000000 in
theorem zj5 (ax:Axs) (hx:zb7 ax) (k:Nat) (b:List Int) (v:List Rule×Int) (H:zfd k b=some v):Pure Tryz.prog (EE ax) [] 41 [byts b] (tupT [zat v.1,.int .i64 v.2]):=by
 rw [zfd] at H;refine enN [.tmp 2,.tmp 3] 39 [0] (hx.no _ (by decide)) (fn41 ax) ?_;intro h hh;repeat apply TW.seq
 refine rk [0] [] hh ?_;clear hh h;intro h hh;repeat apply TW.seq
 refine rk [4] [] hh ?_;clear hh h;intro h hh;repeat apply TW.seq
 refine rk [4,5] [] (f2 hh ykj) ?_;clear hh h;intro h hh;refine zk 5 2 1 true [.fn 82 [] []] [4,5] hh ?_;clear hh h;intro h hh;obtain ⟨rb,e1,H⟩:=zad H;repeat apply TW.seq
 refine rkc [4,6] [] [(zat rb.1,stL [.cells true 2 [byts rb.2.1,.int .i64 rb.2.2],.cells true 1 [.ptr 0 0 2],.gone])] hh ?_ ?_
 ·exact ⟨ca [0,1] (zko ax hx k 4000 b 0 rb e1),trivial⟩
 clear hh h;intro h hh;obtain ⟨s_,H1,H⟩:=zad H;repeat apply TW.seq
 refine cu [4,6,25] 3 (fun h bs=>(h 4=.ptr 1 0 1∧h 6=zat rb.1∧h 25=.bool s_)∧bs=[.cells true 2 [byts rb.2.1,.int .i64 rb.2.2],.cells true 1 [.ptr 0 0 2],.gone]) ?_ ?_
 ·skip;rcases isp H1 with ⟨c2,H1⟩|⟨c2,H1⟩;rotate_left
  ·skip;repeat apply TW.seq
   refine rk [4,6,25] [] (f2 hh (decide_eq_false c2)) ?_;clear hh h;intro h hh;cases H1;exact ce hh ⟨kq hh,rfl⟩
  repeat apply TW.seq
  refine rk [4,6,25] [] (f2 hh (decide_eq_true c2)) ?_;clear hh h;intro h hh;cases H1;exact ce hh ⟨kq hh,rfl⟩
 clear hh h;rintro h bs ⟨hh,rfl⟩;obtain ⟨s_2,H1,H⟩:=zad H;repeat apply TW.seq
 refine cu [4,6] 3 (fun h bs=>(h 4=.ptr 1 0 1∧h 6=zat rb.1)∧bs=[.cells true 2 [byts rb.2.1,.int .i64 s_2],.cells true 1 [.ptr 0 0 2],.gone]) ?_ ?_
 ·skip;rcases isb H1 with ⟨c3,H1⟩|⟨c3,H1⟩;rotate_left
  ·skip;repeat apply TW.seq
   refine cf (f2 hh c3) ?_;repeat apply TW.seq
   refine sk ?_;cases H1;exact ce hh ⟨kq hh,rfl⟩
  repeat apply TW.seq
  refine ct (f2 hh c3) ?_;repeat apply TW.seq
  refine rk [4,6] [] (f2 hh c3) ?_;clear hh h;intro h hh;cases H1;exact ce hh ⟨kq hh,rfl⟩
 clear hh h;rintro h bs ⟨hh,rfl⟩;repeat apply TW.seq
 refine rk [4,6,33] [] hh ?_;clear hh h;intro h hh;rcases isp H with ⟨c4,H⟩|⟨c4,H⟩;rotate_left
 ·skip;repeat apply TW.seq
  refine cf (f2 hh (decide_eq_false c4)) ?_;repeat apply TW.seq
  refine sk ?_;repeat apply TW.seq
  refine rk [2,3] [] hh ?_;clear hh h;intro h hh;cases H;exact rt hh
 repeat apply TW.seq
 refine ct (f2 hh (decide_eq_true c4)) ?_;repeat apply TW.seq
 refine dk 0 [2,3] [] [] [] hh trivial trivial ?_;clear hh h;intro h hh;refine nk 2 23 [2,3] hh ?_;clear hh h;intro h hh;cases H;exact rt hh
end
end Go.Proofs.YtjgbkegkcbcjaaaGreat
