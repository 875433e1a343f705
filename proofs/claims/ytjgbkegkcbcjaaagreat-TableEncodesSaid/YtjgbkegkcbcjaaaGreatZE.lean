/- Part 5 of the proof of TableEncodes (several texts in one; no further condition). -/
import Derived.Test.YtjgbkegkcbcjaaaGreatZD
import Derived.Test.YtjgbkegkcbcjaaaGreatProg
import Derived.KernelRfl
import GoSem.Claim
import Derived.ProofKit
import Derived.OpenShut
import Derived.ShutString
import Derived.ChangeOld
import Derived.Below
import Derived.Carry
import Derived.Deep.Slices
import Derived.SizedLaws
import Derived.JoinedCond
import Derived.WalkKit
import Derived.LoopNIn
import Derived.LoopIn
import Derived.Test.YtjgbkegkcbcjaaaGreatZC
import Derived.Laws.BitsAllLaws
import Derived.RangeFuncBox
import Derived.RangeFuncLeaves
import Derived.Shelf.Abstract
import Derived.OwnWalkIn
import Derived.TacticsInMore
set_option linter.unusedSimpArgs false
set_option linter.unusedVariables false
set_option linter.unusedSectionVars false
namespace Go.Proofs.YtjgbkegkcbcjaaaGreat
section
open Go Go.RowKit
theorem zad {α β:Type} {x:Option α} {f:α→Option β} {v:β} (h:x.bind f=some v):∃ a,x=some a∧f a=some v:=by
  cases x with
  |none=>cases h
  |some a=>exact ⟨a,rfl,h⟩
def gx {α:Type} [Inhabited α] (l:List α) (i:Int):α:=l.getD i.toNat default
theorem za7 {α:Type} [Inhabited α] {l:List α} {i:Int} (h:0≤i∧i<(l.length:Int)):l[i.toNat]?=some (gx l i):=zvv (by omega)
def bx (b:ByteArray) (i:Int):UInt8:=b.data.toList.getD i.toNat 0
def vecC {α:Type} (f:α→T) (l:List α):List T:=(l.map f).flatMap T.cells
theorem zdt {α:Type} {f:α→T} {l l2:List α}:vecC f (l++l2)=vecC f l++vecC f l2:=by
  unfold vecC;rw [List.map_append,List.flatMap_append]
theorem zpd {α:Type} {f:α→T} {x:α}:vecC f [x]=(f x).cells:=by
  unfold vecC;simp
theorem z1k {α:Type} {f:α→T} {e:Nat} (h:∀ x,(f x).cells.length=e):∀ (l:List α),(vecC f l).length=l.length*e
  |[]=>by simp [vecC]
  |x :: l=>by
    have ih:=z1k h l;unfold vecC at ih ⊢;rw [List.map_cons,List.flatMap_cons,List.length_append,h,ih,List.length_cons,Nat.add_mul];omega
theorem zml {α:Type} {f:α→T} {e n:Nat} {l:List α} (h:∀ x,(f x).cells.length=e) (hl:l.length=n):(vecC f l).take (n*e)=(l.map f).flatMap T.cells:=by
  have:=z1k h l;rw [List.take_of_length_le (by rw [this,hl];exact Nat.le_refl _)];rfl
theorem ziv {k:IntKind} {l:List Int}:(l.map (T.int k)).flatMap T.cells=l.map (T.int k):=zbv fun _=>rfl
theorem zgr {l:List Bool}:(l.map T.bool).flatMap T.cells=l.map T.bool:=zbv fun _=>rfl
theorem ziu {l:List ByteArray}:(l.map T.str).flatMap T.cells=l.map T.str:=zbv fun _=>rfl
theorem ziy {k:IntKind} {l:List Int}:(l.map (T.int k)).all T.one=true:=by simp [T.one]
theorem zgu {l:List Bool}:(l.map T.bool).all T.one=true:=by simp [T.one]
theorem zix {l:List ByteArray}:(l.map T.str).all T.one=true:=by simp [T.one]
section
variable {GL:List (Nat×List Value)} {A A' A2:Nat→Prop} {β β' β2:Bx} {S S' S2:TS} {s s' s2:CS} {P:Program} {Γ:Env} {N:Nat} {h h' h2:Nat→T} {Q R:Exit→(Nat→T)→TS→Prop}
theorem Left.trimN {fr fr':Fr} {keep:List Nat} {bs bs2 extra:List Box} {n:Nat} (hn:bs.length≤n) (hT:TRel GL A β (stL bs) s) (k:Left GL A β s N fr' s' h' (stL (bs2++extra))) (hl:bs2.length=n) (hb:ze0 n bs2=true) (hk:zhu keep n h'):Left GL A β s N fr' s' (zvq keep h') (stL bs2):=by
  obtain ⟨A',β',k1,k2,k3⟩:=k;have hat:∀ b,b<n→bcut β' n b=β' b:=fun b hb=>if_pos hb
  have hsub:∀ b l,bcut β' n b=some l→β' b=some l:=fun b l h=>by
    unfold bcut at h;split at h
    · exact h
    · simp at h
  have hkp:zsk (stL (bs2++extra)) (stL bs2):=by
    refine ⟨by simp [stL],fun b=>?_⟩;by_cases hbl:b<bs2.length
    · refine .inr ⟨hbl,?_,?_⟩
      · show bs2.getD b .gone=(bs2++extra).getD b .gone;rw [List.getD_eq_getElem?_getD,List.getD_eq_getElem?_getD,List.getElem?_append_left hbl]
      · show zgt bs2.length ((bs2++extra).getD b .gone)=true;rw [List.getD_eq_getElem?_getD,List.getElem?_append_left hbl,← List.getD_eq_getElem?_getD,hl];exact zk9 hb
    · left;show bs2.getD b .gone=.gone;rw [List.getD_eq_getElem?_getD,List.getElem?_eq_none (by omega)];rfl
  have hcut:=k2.cut hkp;have hnn:(stL bs2).n=n:=hl;rw [hnn] at hcut;refine ⟨A',bcut β' n,⟨k1.nt,k1.le,fun t=>?_⟩,hcut,k3.can,k3.sub,k3.new,fun f hf=>?_,k3.keep,fun b l hb'=>?_,k3.rd,k3.wr⟩
  · by_cases ht:t∈keep
    · rw [zlj ht];exact (k1.slot t).ids hat (zmc hk t ht)
    · rw [show zvq keep h' t=.junk from if_neg ht];exact .junk _
  · obtain ⟨b,hb'⟩:=hf;exact k3.own f ⟨b,hb'.imp (fun ⟨u,N,h⟩=>⟨u,N,hsub _ _ h⟩) fun h=>hsub _ _ h⟩
  · obtain ⟨l',c1,c2⟩:=k3.bx b l hb'
    have:b<bs.length:=by
      by_cases hh:b<bs.length
      · exact hh
      · rw [hT.next b (by show bs.length≤b;omega)] at hb';simp at hb'
    exact ⟨l',by rw [hat b (by omega)];exact c1,c2⟩
theorem TW.cutN {a:Code} (keep:List Nat) (n:Nat) {bs:List Box} (hn:bs.length≤n) (R:(Nat→T)→List Box→Prop) (hR:TW P Γ GL N a h (stL bs) (onT (fun h' S'=>Ends keep n R h' S') Q)) (hk:∀ h bs2,R h bs2→Q .normal h (stL bs2)):TW P Γ GL N a h (stL bs) Q:=by
  intro A β fr s hF hT;obtain ⟨e,fr1,s1,h1,h',S',hleft,hq⟩:=hR A β fr s hF hT
  cases e with
  |normal =>
    obtain ⟨bs',rfl,hl,hbi,hki,hq⟩:=hq;exact ⟨_,fr1,s1,h1,_,_,Left.trimN (fr:=fr) (keep:=keep) (bs2:=bs'.take n) (extra:=bs'.drop n) hn hT (by rw [List.take_append_drop];exact hleft) (by rw [List.length_take];omega) hbi hki,hk _ _ hq⟩
  |_=>exact ⟨_,fr1,s1,h1,h',S',hleft,hq⟩
theorem TW.slot {c:Code} (t:Nat) {v v':T} (ht:h t=v) (hv:∀ A β (g:Nat→Fam) w,VT A β g v w→VT A β g v' w) (k:TW P Γ GL N c (tupd h t v') S Q):TW P Γ GL N c h S Q:=by
  intro A β fr s hF hT
  have hF':FrOk A β (zaa s.obj) N (tupd h t v') fr:=⟨hF.nt,hF.le,fun u=>by
    by_cases hu:u=t
    · subst hu;rw [zic];have:=hF.slot u;rw [ht] at this;exact hv _ _ _ _ this
    · rw [zl6 _ _ _ _ hu];exact hF.slot u⟩
  exact k A β fr s hF' hT
theorem TW.nilL {c:Code} (t e:Nat) (ht:h t=.nils) (k:TW P Γ GL N c (tupd h t (.lst e [])) S Q):TW P Γ GL N c h S Q:=by
  intro A β fr s hF hT;have hv:=hF.slot t;rw [ht] at hv
  have hF':FrOk A β (zaa s.obj) N (tupd h t (.lst e [])) fr:=⟨hF.nt,hF.le,fun u=>by
    by_cases hu:u=t
    · subst hu;rw [zic];generalize fr.get u=w at hv;cases hv;exact .lnil
    · rw [zl6 _ _ _ _ hu];exact hF.slot u⟩
  exact k A β fr s hF' hT
mutual
theorem z3c {n m:Nat} (hnm:n≤m):∀ {t:T},t.ids n=true→t.ids m=true
  |.agg l,h=>zfr hnm (l:=l) h
  |.tup l,h=>zfr hnm (l:=l) h
  |.lst e l,h=>zfr hnm (l:=l) h
  |.cp l,h=>zfr hnm (l:=l) h
  |.ptr b o N,h=>by simp only [T.ids] at h ⊢;exact zac.2 (by have:=zac.1 h;omega)
  |.arr b e o l c N,h=>by simp only [T.ids] at h ⊢;exact zac.2 (by have:=zac.1 h;omega)
  |.mp b,h=>by simp only [T.ids] at h ⊢;exact zac.2 (by have:=zac.1 h;omega)
  |.fn f a c,h=>by
    simp only [T.ids,Bool.and_eq_true] at h ⊢;exact ⟨zfr hnm h.1,zfr hnm h.2⟩
  |.int _ _,_=>rfl
  |.bool _,_=>rfl
  |.str _,_=>rfl
  |.nils,_=>rfl
  |.nilp,_=>rfl
  |.nilm,_=>rfl
  |.nilf,_=>rfl
  |.junk,_=>rfl
  |.emp _,_=>rfl
theorem zfr {n m:Nat} (hnm:n≤m):∀ {l:List T},T.idsL n l=true→T.idsL m l=true
  |[],_=>rfl
  |t :: l,h=>by
    simp only [T.idsL,Bool.and_eq_true] at h ⊢;exact ⟨z3c hnm h.1,zfr hnm h.2⟩
end
mutual
theorem zgx {ρ:Nat→Nat}:∀ {t:T},t.ids 0=true→t.ren ρ=t
  |.agg l,h=>by rw [T.ren,zct (l:=l) h]
  |.tup l,h=>by rw [T.ren,zct (l:=l) h]
  |.lst e l,h=>by rw [T.ren,zct (l:=l) h]
  |.cp l,h=>by rw [T.ren,zct (l:=l) h]
  |.ptr b o N,h=>by simp [T.ids,Nat.blt] at h
  |.arr b e o l c N,h=>by simp [T.ids,Nat.blt] at h
  |.mp b,h=>by simp [T.ids,Nat.blt] at h
  |.fn f a c,h=>by
    simp only [T.ids,Bool.and_eq_true] at h;rw [T.ren,zct (l:=a) h.1,zct (l:=c) h.2]
  |.int _ _,_=>rfl
  |.bool _,_=>rfl
  |.str _,_=>rfl
  |.nils,_=>rfl
  |.nilp,_=>rfl
  |.nilm,_=>rfl
  |.nilf,_=>rfl
  |.junk,_=>rfl
  |.emp _,_=>rfl
theorem zct {ρ:Nat→Nat}:∀ {l:List T},T.idsL 0 l=true→T.renL ρ l=l
  |[],_=>rfl
  |t :: l,h=>by
    simp only [T.idsL,Bool.and_eq_true] at h;rw [T.renL,zgx h.1,zct h.2]
end
theorem zsk.one {z:Bool} {M:Nat} {cs:List T} (h:T.idsL 1 cs=true):zsk (stL [.cells z M cs]) (stL [.cells z M cs]):=by
  refine ⟨Nat.le_refl _,fun b=>?_⟩
  cases b with
  |zero=>exact .inr ⟨by show 0<1;omega,rfl,h⟩
  |succ b=>exact .inl rfl
theorem Call.fresh {f:FuncId} {args:List T} {e n c M:Nat} {z:Bool} {M2:Nat} {cs:List T} (k:Call P Γ GL f args ts0 (.arr 0 e 0 n c M) (stL [.cells z M2 cs])) (ha:T.idsL 0 args=true) (hb:T.idsL 0 cs=true) (bs:List Box):Call P Γ GL f args (stL bs) (.arr bs.length e 0 n c M) (stL (bs++[.cells z M2 cs])):=by
  have:=Call.frame (ρ:=fun i=>bs.length+i) (S:=stL bs) (S':=stL (bs++[.cells z M2 cs])) k ha (by rfl) ⟨Nat.zero_le _,fun b _=>rfl,fun i hi=>absurd hi (by show ¬ i<0;omega),fun i _ hi=>by show bs.length≤bs.length+i;omega,fun i hi=>by have:i<1:=hi;show bs.length+i<(bs++[_]).length;rw [List.length_append];simp;omega,by show bs.length≤(bs++[_]).length;simp,fun i j _ _ h=>by have:bs.length+i=bs.length+j:=h;omega,fun i hi=>absurd hi (by show ¬ i<0;omega),fun i hi=>?_,fun b hb=>?_⟩
  · rw [zct ha] at this;exact this
  · have:i<1:=hi;have:i=0:=by omega
    subst this;constructor
    · show (bs++[Box.cells z M2 cs]).getD (bs.length+0) .gone=.cells z M2 (T.renL _ cs);rw [zct hb,Nat.add_zero,List.getD_eq_getElem?_getD,List.getElem?_append_right (Nat.le_refl _)];simp
    · show T.idsL 1 cs=true
      exact z3h fun t ht=>by
        have:=z88 hb t ht;exact z3c (Nat.zero_le _) this
  · show (bs++[Box.cells z M2 cs]).getD b .gone=bs.getD b .gone;by_cases hlt:b<bs.length
    · rw [List.getD_eq_getElem?_getD,List.getD_eq_getElem?_getD,List.getElem?_append_left hlt]
    · by_cases h2:b=bs.length
      · exact absurd (h2 ▸ rfl:bs.length+0=b) (hb 0 (by show 0<1;omega))
      · rw [List.getD_eq_getElem?_getD,List.getD_eq_getElem?_getD,List.getElem?_eq_none (by rw [List.length_append];simp;omega),List.getElem?_eq_none (by omega)]
end
def mset {K V:Type} [DecidableEq K] (k:K) (v:V):List (K×V)→List (K×V)
  |[]=>[(k,v)]
  |p :: l=>if k=p.1 then (k,v) :: l else p :: mset k v l
def mget {K V:Type} [DecidableEq K] (k:K):List (K×V)→Option V
  |[]=>none
  |p :: l=>if k=p.1 then some p.2 else mget k l
theorem keyI {kk:IntKind} {a b:Int}:zoi (.int kk a) (.int kk b)=some (decide (a=b)):=by
  show (bif Nat.beq (ikN kk) (ikN kk) then some (a == b) else none)=_;rw [Nat.beq_refl,cond_true];by_cases h:a=b<;>simp [h]
theorem keyS {a b:ByteArray}:zoi (.str a) (.str b)=some (decide (a=b)):=by
  show some (a.data.toList == b.data.toList)=_;by_cases h:a=b
  · subst h;simp
  · have:(a.data.toList == b.data.toList)=false:=by simpa using fun hh=>h (ByteArray.ext hh)
    rw [this,decide_eq_false h]
theorem zuv {K V:Type} [DecidableEq K] {kf:K→T} {f:V→T} (hk:∀ a b,zoi (kf a) (kf b)=some (decide (a=b))) (k:K) (v:V):∀ l:List (K×V),tSet (kf k) (f v) (l.map fun p=>(kf p.1,f p.2))=some ((mset k v l).map fun p=>(kf p.1,f p.2))
  |[]=>rfl
  |p :: l=>by
    rw [List.map_cons,tSet,hk];unfold mset;by_cases h:k=p.1
    · rw [decide_eq_true h,if_pos h,List.map_cons]
    · rw [decide_eq_false h,if_neg h,List.map_cons];simp only [zuv hk k v l]
theorem zuw {K V:Type} [DecidableEq K] {kf:K→T} {f:V→T} (hk:∀ a b,zoi (kf a) (kf b)=some (decide (a=b))) (k:K):∀ l:List (K×V),tGet (kf k) (l.map fun p=>(kf p.1,f p.2))=some ((mget k l).map f)
  |[]=>rfl
  |p :: l=>by
    rw [List.map_cons,tGet,hk];unfold mget;by_cases h:k=p.1
    · rw [decide_eq_true h,if_pos h];rfl
    · rw [decide_eq_false h,if_neg h];exact zuw hk k l
theorem zev {kk:IntKind} {V:Type} {f:V→T} {k:Int} {v:V} {l:List (Int×V)}:tSet (.int kk k) (f v) (l.map fun p=>(.int kk p.1,f p.2))=some ((mset k v l).map fun p=>(.int kk p.1,f p.2)):=zuv (kf:=T.int kk) (fun _ _=>keyI) k v l
theorem zex {kk:IntKind} {V:Type} {f:V→T} {k:Int} {l:List (Int×V)}:tGet (.int kk k) (l.map fun p=>(.int kk p.1,f p.2))=some ((mget k l).map f):=zuw (kf:=T.int kk) (fun _ _=>keyI) k l
theorem zeu {V:Type} {f:V→T} {k:ByteArray} {v:V} {l:List (ByteArray×V)}:tSet (.str k) (f v) (l.map fun p=>(.str p.1,f p.2))=some ((mset k v l).map fun p=>(.str p.1,f p.2)):=zuv (kf:=T.str) (fun _ _=>keyS) k v l
theorem zew {V:Type} {f:V→T} {k:ByteArray} {l:List (ByteArray×V)}:tGet (.str k) (l.map fun p=>(.str p.1,f p.2))=some ((mget k l).map f):=zuw (kf:=T.str) (fun _ _=>keyS) k l
theorem zgp {V:Type} {f:V→T} {d:V} {o:Option V}:zyn false (f d) (o.map f)=f (o.getD d):=by cases o<;>rfl
theorem zgo {V:Type} {f:V→T} {d:V} {o:Option V}:zyn true (f d) (o.map f)=.tup [f (o.getD d),.bool o.isSome]:=by cases o<;>rfl
theorem zmd:type_of% (And.intro (And.intro (And.intro (@zay) (And.intro (@Bool.true_and) (@Bool.and_true))) (And.intro (@z4n) (And.intro (@Bool.and_self) (@and_self)))) (And.intro (And.intro (@and_true) (And.intro (@true_and) (@List.take_succ_cons.{0}))) (And.intro (And.intro (@List.take_zero.{0}) (@List.length_cons.{0})) (And.intro (@List.length_nil.{0}) (@Nat.zero_add))))):=And.intro (And.intro (And.intro (@zay) (And.intro (@Bool.true_and) (@Bool.and_true))) (And.intro (@z4n) (And.intro (@Bool.and_self) (@and_self)))) (And.intro (And.intro (@and_true) (And.intro (@true_and) (@List.take_succ_cons.{0}))) (And.intro (And.intro (@List.take_zero.{0}) (@List.length_cons.{0})) (And.intro (@List.length_nil.{0}) (@Nat.zero_add))))
theorem zcx:type_of% (And.intro (And.intro (And.intro (@T.ids.eq_1) (And.intro (@T.ids.eq_2) (@T.ids.eq_3))) (And.intro (@T.ids.eq_4) (And.intro (@T.ids.eq_5) (@T.ids.eq_6)))) (And.intro (And.intro (@T.ids.eq_7) (And.intro (@T.ids.eq_8) (@T.ids.eq_9))) (And.intro (@T.idsL.eq_1) (And.intro (@T.idsL.eq_2) (@zca))))):=And.intro (And.intro (And.intro (@T.ids.eq_1) (And.intro (@T.ids.eq_2) (@T.ids.eq_3))) (And.intro (@T.ids.eq_4) (And.intro (@T.ids.eq_5) (@T.ids.eq_6)))) (And.intro (And.intro (@T.ids.eq_7) (And.intro (@T.ids.eq_8) (@T.ids.eq_9))) (And.intro (@T.idsL.eq_1) (And.intro (@T.idsL.eq_2) (@zca))))
theorem zcw:type_of% (And.intro (And.intro (@ze0.eq_1) (And.intro (@ze0.eq_2) (@zgt.eq_1))) (And.intro (And.intro (@zgt.eq_2) (@zgt.eq_3)) (And.intro (@zhu.eq_1) (@zhu.eq_2)))):=And.intro (And.intro (@ze0.eq_1) (And.intro (@ze0.eq_2) (@zgt.eq_1))) (And.intro (And.intro (@zgt.eq_2) (@zgt.eq_3)) (And.intro (@zhu.eq_1) (@zhu.eq_2)))
theorem scA:type_of% (And.intro (@List.set_cons_zero.{0}) (@List.set_cons_succ.{0})):=And.intro (@List.set_cons_zero.{0}) (@List.set_cons_succ.{0})
theorem scB:type_of% (And.intro (And.intro (@st_n) (And.intro (@List.length_cons.{0}) (@List.length_nil.{0}))) (And.intro (@List.cons_append.{0}) (And.intro (@List.nil_append.{0}) (@Nat.zero_add)))):=And.intro (And.intro (@st_n) (And.intro (@List.length_cons.{0}) (@List.length_nil.{0}))) (And.intro (@List.cons_append.{0}) (And.intro (@List.nil_append.{0}) (@Nat.zero_add)))
theorem gsA:type_of% (And.intro (And.intro (@zca) (And.intro (@List.map_append.{0,0}) (@List.map_cons.{0,0}))) (And.intro (@List.map_nil.{0,0}) (And.intro (@Nat.add_mul) (@Nat.one_mul)))):=And.intro (And.intro (@zca) (And.intro (@List.map_append.{0,0}) (@List.map_cons.{0,0}))) (And.intro (@List.map_nil.{0,0}) (And.intro (@Nat.add_mul) (@Nat.one_mul)))
end
section
open Go Go.RowKit
structure Ar (n:Nat) where
  l:List Int
  h:l.length=n
deriving DecidableEq
instance {n:Nat}:Inhabited (Ar n):=⟨⟨List.replicate n 0,List.length_replicate⟩⟩
theorem Ar.ext' {n:Nat} {a b:Ar n} (h:a.l=b.l):a=b:=by cases a;cases b;cases h;rfl
theorem Ar.eq_iff {n:Nat} {a b:Ar n}:a=b↔a.l=b.l:=⟨fun h=>by rw [h],Ar.ext'⟩
def zA (n:Nat):Ar n:=⟨List.replicate n 0,List.length_replicate⟩
def zVs (n:Nat) (k:IntKind):List Value:=List.replicate n (.int k 0)
theorem yig {n:Nat} {k:IntKind}:zfl (zVs n k)=some ((zA n).l.map (T.int k)):=by
  show zfl (List.replicate n (.int k 0))=some ((List.replicate n 0).map (T.int k))
  induction n with
  |zero=>rfl
  |succ n ih=>rw [List.replicate_succ,List.replicate_succ,List.map_cons];unfold zfl;rw [ih];rfl
def eAr (k:IntKind) {n:Nat} (a:Ar n):T:=.agg (a.l.map (T.int k))
theorem z93 {k:IntKind} {n:Nat} (a:Ar n):(eAr k a).cells=a.l.map (T.int k):=Eq.trans rfl rfl
theorem zd2 {k:IntKind} {n:Nat} (a:Ar n):(eAr k a).cells.length=n:=by rw [z93,List.length_map,a.h]
theorem zv5 {k:IntKind}:∀ (l:List Int),(l.map (T.int k)).all T.one=true
  |[]=>rfl
  |x :: l=>by rw [List.map_cons,List.all_cons,zv5 l];rfl
theorem zfq {k:IntKind} {m:Nat}:∀ (l:List Int),T.idsL m (l.map (T.int k))=true
  |[]=>rfl
  |x :: l=>by simp only [List.map_cons,T.idsL,T.ids,zfq l,Bool.and_self]
theorem z3g {k:IntKind} {m n:Nat} (a:Ar n):(eAr k a).ids m=true:=zfq a.l
section
variable {P:Program}
theorem z9m (len:Nat) (β:Type) (b:β) (f:Nat→β→Sem (ForInStep β)):(forIn [0:len] b f:Sem β)=forIn (List.range' 0 len) b f:=by
  rw [Std.Legacy.Range.forIn_eq_forIn_range'];simp [Std.Legacy.Range.size]
theorem zmv {k:IntKind}:∀ (l:List Int),zfo (l.map (T.int k))=some (l.map (Value.int k))
  |[]=>rfl
  |x :: l=>by rw [List.map_cons];unfold zfo;rw [zmv l];rfl
variable {Γ:Env} {S:TS} {t:TypeId} {x y:Operand}
end
end
section
open Go Go.RowKit
section
variable {GL:List (Nat×List Value)} {A A' A2:Nat→Prop} {β β' β2:Bx} {S S' S2:TS} {s s' s2:CS} {P:Program} {Γ:Env} {N:Nat} {h h' h2:Nat→T} {Q R:Exit→(Nat→T)→TS→Prop}
theorem VL.setAt {g:Nat→Fam} {t:T} {v:Value}:∀ {l:List T} {vs:List Value} {i:Nat},VL A β g l vs→vs[i]?=some v→VT A β g t v→VL A β g (l.set i t) vs
  |[],_,_,.nil,_,_=>.nil
  |x :: l,y :: vs,0,.cons k1 k2,hv,ht=>by
    simp only [List.getElem?_cons_zero,Option.some.injEq] at hv;subst hv;exact .cons ht k2
  |x :: l,y :: vs,i+1,.cons k1 k2,hv,ht=>.cons k1 (VL.setAt k2 (by simpa using hv) ht)
theorem TW.freezeC {c:Code} (c0 i:Nat) {b e len M N0:Nat} {z z0:Bool} {l l0:List T} (L:List T) (hS0:S.box c0=.cells z0 N0 l0) (hi:l0[i]?=some (.arr b e 0 len len M)) (hne:c0≠b) (hS:S.box b=.cells z M l) (he:0<e) (hoff:0+len*e≤M) (hL:(l.drop 0).take (len*e)=L.flatMap T.cells) (hs:∀ t,t∈L→t.cells.length=e) (hlen:L.length=len)
    (k:TW P Γ GL N c h ((S.set c0 (.cells z0 N0 (l0.set i (.lst e L)))).set b .gone) Q):TW P Γ GL N c h S Q:=by
  intro A β fr s hF hT;obtain ⟨A',β',k1,k2,k3⟩:=hT.freeze hS;obtain ⟨n0,hc⟩:=hT.cells c0 z0 N0 l0 hS0;have hS0':(S.set b .gone).box c0=.cells z0 N0 l0:=by rw [TS.set_ne _ _ hne];exact hS0
  obtain ⟨n1,hc'⟩:=k1.cells c0 z0 N0 l0 hS0';have hi0:i<l0.length:=(List.getElem?_eq_some_iff.1 hi).1
  have hnew:zmi A' β' (zaa s.obj) c0 z0 N0 (l0.set i (.lst e L)):=by
    rcases hc with ⟨_,q,_⟩|⟨f,u,cs,rest,a1,a2,a3,a4,a5⟩
    · omega
    · rcases hc' with ⟨_,q,_⟩|⟨f',u',cs',rest',b1,b2,b3,b4,b5⟩
      · omega
      · obtain ⟨l',c1,c2⟩:=k2.bx c0 _ a1;rw [b1] at c1;cases c1;simp only [Loc.le] at c2;rcases c2 with ⟨rfl,rfl,_⟩|c2
        · rw [a3] at b3;simp only [Fam.mk.injEq,List.cons.injEq,Prod.mk.injEq] at b3;obtain ⟨_,⟨⟨_,rfl⟩,rfl⟩,_⟩:=b3;obtain ⟨v,v1,v2⟩:=a4.get hi;refine ⟨by rw [List.length_set];exact n0,.inr ⟨f,u,cs,rest,b1,a2,a3,b4.setAt v1 (k3 v2 he hoff hL hs hlen (Nat.le_refl _)),a5⟩⟩
        · omega
  have hT':TRel GL A' β' ((S.set c0 (.cells z0 N0 (l0.set i (.lst e L)))).set b .gone) s:=by
    refine ⟨k1.inr,k1.inv,k1.alt,k1.dis,k1.inj,k1.next,fun b' z N' l' hb'=>?_,fun b' l' hb'=>?_,k1.glob⟩
    · by_cases e1:b'=b
      · subst e1;rw [TS.set_same] at hb';cases hb'
      · rw [TS.set_ne _ _ e1] at hb';by_cases e2:b'=c0
        · subst e2;rw [TS.set_same] at hb';cases hb';exact hnew
        · rw [TS.set_ne _ _ e2] at hb';exact k1.cells b' z N' l' (by rw [TS.set_ne _ _ e1];exact hb')
    · by_cases e1:b'=b
      · subst e1;rw [TS.set_same] at hb';cases hb'
      · rw [TS.set_ne _ _ e1] at hb';by_cases e2:b'=c0
        · subst e2;rw [TS.set_same] at hb';cases hb'
        · rw [TS.set_ne _ _ e2] at hb';exact k1.maps b' l' (by rw [TS.set_ne _ _ e1];exact hb')
  have hF':FrOk A' β' (zaa s.obj) N h fr:=⟨hF.nt,hF.le,fun u=>k2.vt hT (hF.slot u)⟩;refine (k A' β' fr s hF' hT').mono ?_;rintro e2 fr2 s2 ⟨h2,S2,l2,q2⟩;exact ⟨h2,S2,Left.trans (h':=h) (fr':=fr) hT.le k2 l2,q2⟩
theorem TW.nilC {c:Code} (c0 i e:Nat) {N0:Nat} {z0:Bool} {l0:List T} (hS0:S.box c0=.cells z0 N0 l0) (hi:l0[i]?=some .nils) (k:TW P Γ GL N c h (S.set c0 (.cells z0 N0 (l0.set i (.lst e [])))) Q):TW P Γ GL N c h S Q:=by
  intro A β fr s hF hT;obtain ⟨n0,hc⟩:=hT.cells c0 z0 N0 l0 hS0;have hi0:i<l0.length:=(List.getElem?_eq_some_iff.1 hi).1
  have hnew:zmi A β (zaa s.obj) c0 z0 N0 (l0.set i (.lst e [])):=by
    rcases hc with ⟨_,q,_⟩|⟨f,u,cs,rest,a1,a2,a3,a4,a5⟩
    · omega
    · obtain ⟨v,v1,v2⟩:=a4.get hi;refine ⟨by rw [List.length_set];exact n0,.inr ⟨f,u,cs,rest,a1,a2,a3,a4.setAt v1 ?_,a5⟩⟩;cases v2;exact .lnil
  have hT':TRel GL A β (S.set c0 (.cells z0 N0 (l0.set i (.lst e [])))) s:=by
    refine ⟨hT.inr,hT.inv,hT.alt,hT.dis,hT.inj,hT.next,fun b' z N' l' hb'=>?_,fun b' l' hb'=>?_,hT.glob⟩
    · by_cases e2:b'=c0
      · subst e2;rw [TS.set_same] at hb';cases hb';exact hnew
      · rw [TS.set_ne _ _ e2] at hb';exact hT.cells b' z N' l' hb'
    · by_cases e2:b'=c0
      · subst e2;rw [TS.set_same] at hb';cases hb'
      · rw [TS.set_ne _ _ e2] at hb';exact hT.maps b' l' hb'
  exact k A β fr s hF hT'
theorem TW.vecC {c:Code} (c0 i e:Nat) {N0:Nat} {z0:Bool} {l0:List T} (hS0:S.box c0=.cells z0 N0 l0) (hi:l0[i]?=some .nils) (h0:c0<S.n) (k:TW P Γ GL N c h ((S.set c0 (.cells z0 N0 (l0.set i (.arr S.n e 0 0 0 0)))).add (.cells false 0 [])) Q):TW P Γ GL N c h S Q:=by
  intro A β fr s hF hT;have hb0:β S.n=none:=hT.next _ (Nat.le_refl _)
  have hle:Bx.le β (bnew β S.n .nil):=zr5 hb0;have hse:bnew β S.n .nil S.n=some .nil:=if_pos rfl;have hne:∀ b',b'≠S.n→bnew β S.n .nil b'=β b':=fun b' hb'=>if_neg hb'
  have hown:∀ f,Own (bnew β S.n .nil) f→Own β f:=fun f ⟨b',hb'⟩=>by
    by_cases hi:b'=S.n
    · subst hi;rw [hse] at hb';rcases hb' with ⟨u,N,hb'⟩|hb'<;>simp at hb'
    · rw [hne b' hi] at hb';exact ⟨b',hb'⟩
  have hst:Stp A β s A (bnew β S.n .nil) s:=⟨Can.refl _,fun _ h=>h,fun _ h=>.inl h,fun f hf=>.inl (hown f hf),fun _ _ _=>rfl,hle,fun _ h=>.inl h,fun _ h=>.inl h⟩;obtain ⟨n0,hc⟩:=hT.cells c0 z0 N0 l0 hS0;have hi0:i<l0.length:=(List.getElem?_eq_some_iff.1 hi).1
  have hnew:zmi A (bnew β S.n .nil) (zaa s.obj) c0 z0 N0 (l0.set i (.arr S.n e 0 0 0 0)):=by
    rcases hc with ⟨_,q,_⟩|⟨f,u,cs,rest,a1,a2,a3,a4,a5⟩
    · omega
    · obtain ⟨v,v1,v2⟩:=a4.get hi;have a4':=a4.mono (A':=A) (β':=bnew β S.n .nil) (g':=zaa s.obj) (fun _ h=>h) (fun _ _=>rfl) hle;refine ⟨by rw [List.length_set];exact n0,.inr ⟨f,u,cs,rest,by rw [hne c0 (by omega)];exact a1,a2,a3,a4'.setAt v1 ?_,a5⟩⟩;cases v2;exact .arrNil hse
  have hT':TRel GL A (bnew β S.n .nil) ((S.set c0 (.cells z0 N0 (l0.set i (.arr S.n e 0 0 0 0)))).add (.cells false 0 [])) s:=by
    refine ⟨hT.inr,hT.inv,hT.alt,fun f hf=>hT.dis f (hown f hf),fun b1 b2 l1 l2 f h1 h2 h3 h4=>?_,fun b' hb'=>?_,fun b' z N l hb'=>?_,fun b' l hb'=>?_,hT.glob⟩
    · by_cases e1:b1=S.n
      · subst e1;rw [hse] at h1;cases h1;simp [Loc.fam] at h3
      · by_cases e2:b2=S.n
        · subst e2;rw [hse] at h2;cases h2;simp [Loc.fam] at h4
        · rw [hne b1 e1] at h1;rw [hne b2 e2] at h2;exact hT.inj b1 b2 l1 l2 f h1 h2 h3 h4
    · have:S.n+1≤b':=hb';rw [hne b' (by omega)];exact hT.next b' (by omega)
    · by_cases hi:b'=S.n
      · subst hi;have hq:=(TS.add_same (S.set c0 (.cells z0 N0 (l0.set i (.arr S.n e 0 0 0 0)))) (.cells false 0 [])).symm.trans hb';cases hq;exact ⟨rfl,.inl ⟨hse,rfl,rfl⟩⟩
      · rw [TS.add_ne _ _ (show b'≠(S.set c0 (.cells z0 N0 (l0.set i (.arr S.n e 0 0 0 0)))).n from hi)] at hb';by_cases e2:b'=c0
        · subst e2;rw [TS.set_same] at hb';cases hb';exact hnew
        · rw [TS.set_ne _ _ e2] at hb';exact (hT.cells b' z N l hb').mono (fun _ h=>h) (fun _ _=>rfl) hle (hne b' hi) fun _ _ _ _=>rfl
    · by_cases hi:b'=S.n
      · subst hi;have hq:=(TS.add_same (S.set c0 (.cells z0 N0 (l0.set i (.arr S.n e 0 0 0 0)))) (.cells false 0 [])).symm.trans hb';cases hq
      · rw [TS.add_ne _ _ (show b'≠(S.set c0 (.cells z0 N0 (l0.set i (.arr S.n e 0 0 0 0)))).n from hi)] at hb';by_cases e2:b'=c0
        · subst e2;rw [TS.set_same] at hb';cases hb'
        · rw [TS.set_ne _ _ e2] at hb';exact (hT.maps b' l hb').mono (fun _ h=>h) (fun _ _=>rfl) hle (hne b' hi) fun _ _=>rfl
  have hF':FrOk A (bnew β S.n .nil) (zaa s.obj) N h fr:=⟨hF.nt,hF.le,fun u=>hst.vt hT (hF.slot u)⟩;refine (k A _ fr s hF' hT').mono ?_;rintro e2 fr2 s2 ⟨h2,S2,l2,q2⟩;exact ⟨h2,S2,Left.trans (h':=h) (fr':=fr) hT.le hst l2,q2⟩
end
def Le1:List T→List T→Prop
  |[],[]=>True
  |t :: l,t' :: l'=>(t=t'∨(t=.nils∧∃ e,t'=.lst e []))∧Le1 l l'
  |_,_=>False
def Le2:List T→List T→Prop
  |[],[]=>True
  |t :: l,t' :: l'=>(t=t'∨(t=.nils∧∃ e,t'=.lst e [])∨∃ m m',t=.agg m∧t'=.agg m'∧Le1 m m')∧Le2 l l'
  |_,_=>False
theorem Le1.vl {A:Nat→Prop} {β:Bx} {g:Nat→Fam}:∀ {l l':List T} {vs:List Value},Le1 l l'→VL A β g l vs→VL A β g l' vs
  |[],[],_,_,.nil=>.nil
  |t :: l,t' :: l',_,h,.cons k1 k2=>by
    obtain ⟨h1,h2⟩:=h;rcases h1 with rfl|⟨rfl,e,rfl⟩
    · exact .cons k1 (Le1.vl h2 k2)
    · cases k1;exact .cons .lnil (Le1.vl h2 k2)
theorem Le2.vl {A:Nat→Prop} {β:Bx} {g:Nat→Fam}:∀ {l l':List T} {vs:List Value},Le2 l l'→VL A β g l vs→VL A β g l' vs
  |[],[],_,_,.nil=>.nil
  |t :: l,t' :: l',_,h,.cons k1 k2=>by
    obtain ⟨h1,h2⟩:=h;rcases h1 with rfl|⟨rfl,e,rfl⟩|⟨m,m',rfl,rfl,h3⟩
    · exact .cons k1 (Le2.vl h2 k2)
    · cases k1;exact .cons .lnil (Le2.vl h2 k2)
    · cases k1 with|agg k=>exact .cons (.agg (h3.vl k)) (Le2.vl h2 k2)
theorem znm {n:Nat} {i:Int} (h:0≤i∧i≤(n:Int)):zcu n n (some (.int .i64 i)) none none=some (i.toNat,n,n):=by
  obtain ⟨k,rfl⟩:∃ k:Nat,i=(k:Int):=⟨i.toNat,by omega⟩;exact ydd rfl (by omega) (Nat.le_refl _)
theorem zh4 {α:Type} (f:α→T) (l:List α) (a:Nat):((l.map f).drop a).take (l.length - a)=(l.drop a).map f:=by
  rw [List.take_of_length_le (by rw [List.length_drop,List.length_map];exact Nat.le_refl _),List.map_drop]
end
section
open Go Go.RowKit
theorem Ar.len {n:Nat} (a:Ar n):a.l.length=n:=a.h
def Ar.set {n:Nat} (a:Ar n) (i v:Int):Ar n:=⟨a.l.set i.toNat v,by rw [List.length_set,a.h]⟩
theorem z92 {k:IntKind} {n:Nat} (a:Ar n):eAr k a=.agg (a.l.map (T.int k)):=Eq.trans rfl rfl
theorem arIx {n:Nat} (a:Ar n) {i:Int} (h:0≤i∧i<(n:Int)):a.l[i.toNat]?=some (gx a.l i):=za7 (by rw [a.h];exact h)
theorem arSpl {k:IntKind} {n:Nat} (a b:Ar n):spl (a.l.map (T.int k)) 0 (b.l.map (T.int k))=b.l.map (T.int k):=by
  unfold spl;rw [List.take_zero,List.nil_append,List.drop_of_length_le (by rw [List.length_map,List.length_map,a.h,b.h];omega),List.append_nil]
theorem ykh {k:IntKind} {n:Nat} (a:Ar n) {i:Int} (v:Int) (h:0≤i∧i<(n:Int)):spl (a.l.map (T.int k)) i.toNat [T.int k v]=(a.set i v).l.map (T.int k):=by
  exact yg1 (f:=T.int k) (v:=v) (L:=a.l) (i:=i.toNat) (by rw [a.h];omega)
def u8o (z:Int):UInt8:=UInt8.ofNat z.toNat
def strL (l:List Int):ByteArray:=⟨(l.map u8o).toArray⟩
def bytL (s:ByteArray):List Int:=s.data.toList.map fun c=>(c.toNat:Int)
theorem z4l (s:ByteArray):(bytL s).length=s.size:=by unfold bytL;rw [List.length_map];exact Array.length_toList
theorem zzf (s:ByteArray):zgs s=(bytL s).map (T.int .u8):=by
  unfold zgs bytL;rw [List.map_map];rfl
theorem zwi:∀ (l:List Int),zr8 (l.map (T.int .u8))=some (l.map u8o)
  |[]=>rfl
  |x :: l=>by rw [List.map_cons];unfold zr8;rw [zwi l];rfl
theorem z1n (l:List Int):(⟨(l.map u8o).toArray⟩:ByteArray)=strL l:=Eq.trans rfl rfl
theorem zwd {k:IntKind}:∀ (l:List Int),(l.map (T.int k)).flatMap T.cells=l.map (T.int k)
  |[]=>rfl
  |x :: l=>by rw [List.map_cons,List.flatMap_cons,zwd l];rfl
theorem ygs {k:IntKind} {l:List Int} {n:Nat} (h:l.length=n):(l.map (T.int k)).take n=l.map (T.int k):=List.take_of_length_le (by rw [List.length_map,h];omega)
theorem z6d {k:IntKind} {l:List Int}:(l.map (T.int k)).take l.length=l.map (T.int k):=ygs rfl
def cpA {n:Nat} (a:Ar n) (s:ByteArray):Ar n:=⟨(bytL s).take (min s.size n)++a.l.drop (min s.size n),by rw [List.length_append,List.length_take,List.length_drop,z4l,a.h];omega⟩
theorem ygb {n:Nat} (a:Ar n) (s:ByteArray):spl (a.l.map (T.int .u8)) 0 (((bytL s).map (T.int .u8)).take (min s.size n))=(cpA a s).l.map (T.int .u8):=by
  unfold spl cpA;rw [List.take_zero,List.nil_append,List.length_take,List.length_map,z4l,List.map_append,List.map_take,List.map_drop,Nat.zero_add];congr 2;omega
theorem ya4 {k:IntKind} {l:List Int} {n:Nat}:((l.map (T.int k)).take n).all T.one=true:=by rw [← List.map_take];exact zv5 _
theorem yf9 {n:Nat}:zcu n n none none none=some (0,n,n):=z5r (Nat.le_refl _)
theorem yhh (a n:Nat):min a n≤n:=Nat.min_le_right _ _
theorem sub0 {n:Nat}:n - 0=n:=Nat.sub_zero n
end
section
open Go Go.RowKit
inductive CK where
  |int (k:IntKind)
  |bool
  |str
def ckV:CK→Value→Bool
  |.int k,.int k' _=>decide (k=k')
  |.bool,.bool _=>true
  |.str,.string _=>true
  |_,_=>false
def zfa:List CK→List Value→Bool
  |[],[]=>true
  |c :: l,v :: m=>ckV c v && zfa l m
  |_,_=>false
def zrw:Value→Value→Bool
  |.int _ a,.int _ b=>a == b
  |.bool a,.bool b=>a == b
  |.string a,.string b=>a == b
  |_,_=>false
def eqVs:List Value→List Value→Bool
  |v :: l,w :: m=>zrw v w && eqVs l m
  |_,_=>true
theorem znb:∀ {sh:List CK} {xs:List Value},zfa sh xs=true→xs.length=sh.length
  |[],[],_=>rfl
  |_ :: _,_ :: _,h=>by
    simp only [zfa,Bool.and_eq_true] at h;rw [List.length_cons,List.length_cons,znb h.2]
  |[],_ :: _,h=>by simp [zfa] at h
  |_ :: _,[],h=>by simp [zfa] at h
theorem zlo {c:CK}:∀ {xs:List Value},zfa [c] xs=true→∃ v,xs=[v]∧ckV c v=true
  |[],h=>by simp [zfa] at h
  |[v],h=>⟨v,rfl,by simpa [zfa] using h⟩
  |_ :: _ :: _,h=>by simp [zfa] at h
theorem zn7:∀ {a b:List CK} {xs:List Value},zfa (a++b) xs=true→zfa a (xs.take a.length)=true∧zfa b (xs.drop a.length)=true
  |[],b,xs,h=>⟨by simp [zfa],by simpa using h⟩
  |c :: a,b,[],h=>by simp [zfa] at h
  |c :: a,b,v :: xs,h=>by
    simp only [List.cons_append,zfa,Bool.and_eq_true] at h;obtain ⟨h1,h2⟩:=zn7 h.2;exact ⟨by simp only [List.length_cons,List.take_succ_cons,zfa,h.1,h1,Bool.and_self],by simpa using h2⟩
theorem zjy:∀ {a b c d:List Value},a.length=c.length→eqVs (a++b) (c++d)=(eqVs a c && eqVs b d)
  |[],b,[],d,_=>rfl
  |x :: a,b,y :: c,d,h=>by
    simp only [List.cons_append,eqVs,zjy (Nat.succ.inj h),Bool.and_assoc]
  |[],_,_ :: _,_,h=>by simp at h
  |_ :: _,_,[],_,h=>by simp at h
def valA (a:Bool) (xs:List Value):Value:=if a then .agg xs.toArray else xs.headD undef
noncomputable def zl9 (P:Program) (g:TypeId→Option (Bool×List CK)):List Field→Nat→Option (List CK)
  |[],_=>some []
  |f :: l,off=>match g f.type,(P.info? f.type).map (fun i=>i.size) with
    | some (_, sh), some sz => if f.name ≠ "_" ∧ f.offset = off ∧ sz = sh.length then
        (match zl9 P g l (off+sh.length) with|some r=>some (sh++r)|none=>none) else none
    |_,_=>none
noncomputable def zgj (P:Program):Nat→TypeId→Option (Bool×List CK)
  |0,_=>none
  |d+1,t=>match P.underlying t with
    |some (.int k)=>some (false,[.int k])
    |some .bool=>some (false,[.bool])
    |some .string=>some (false,[.str])
    |some (.struct fs)=>if P.stoodInHeld t=true then none else (match zl9 P (zgj P d) fs.toList 0 with|some l=>some (true,l)|none=>none)
    |some (.array n e)=>(match zgj P d e,(P.info? e).map (fun i=>i.size) with
      |some (_,sh),some sz=>if sz=sh.length then some (true,(List.replicate n sh).flatten) else none
      |_,_=>none)
    |_=>none
section
variable {P:Program}
theorem zvz {α σ:Type} (s0 s1:σ) (f:α→σ→Sem (ForInStep σ)) (b:α→Bool):∀ (l:List α),(∀ x,x∈l→zcn P (f x s0)=some (if b x then .yield s0 else .done s1))→zcn P (forIn l s0 f:Sem σ)=some (if l.all b then s0 else s1)
  |[],_=>by simp;rfl
  |x :: l,h=>by
    rw [List.forIn_cons,zao,h x (.head _)]
    cases hb:b x with
    |true =>
      show zcn P (forIn l s0 f)=_;rw [zvz s0 s1 f b l fun y hy=>h y (.tail _ hy),List.all_cons,hb,Bool.true_and]
    |false =>
      rw [List.all_cons,hb,Bool.false_and];rfl
theorem ycm {d:Nat} {t:TypeId} {a:Bool} {sh:List CK} (h:zgj P d t=some (a,sh)):zcn P (isAgg t)=some a:=by
  cases d with
  |zero=>simp [zgj] at h
  |succ d =>
    unfold zgj at h;unfold isAgg;rw [zao]
    cases hu:P.underlying t with
    |none=>rw [hu] at h;simp at h
    |some u =>
      rw [hu] at h;rw [zep hu]
      cases u with
      |int k=>simp at h;rw [← h.1];rfl
      |bool=>simp at h;rw [← h.1];rfl
      |string=>simp at h;rw [← h.1];rfl
      |struct fs =>
        simp only at h;split at h
        · simp at h
        · split at h
          · simp at h;rw [← h.1];rfl
          · simp at h
      |array n e =>
        simp only at h;split at h
        · split at h
          · simp at h;rw [← h.1];rfl
          · simp at h
        · simp at h
      |_=>simp at h
theorem z6z {d:Nat} {t:TypeId} {sh:List CK} (h:zgj P d t=some (false,sh)):∃ c,sh=[c]:=by
  cases d with
  |zero=>simp [zgj] at h
  |succ d =>
    unfold zgj at h;split at h
    · simp at h;exact ⟨_,h.symm⟩
    · simp at h;exact ⟨_,h.symm⟩
    · simp at h;exact ⟨_,h.symm⟩
    · split at h
      · simp at h
      · split at h<;>simp at h
    · split at h
      · split at h<;>simp at h
      · simp at h
    · simp at h
theorem zys {t:TypeId} {sz:Nat} (h:(P.info? t).map (fun i=>i.size)=some sz):zcn P (sizeOf t)=some sz:=by
  cases hi:P.info? t with
  |none=>rw [hi] at h;simp at h
  |some i =>
    rw [hi] at h;unfold sizeOf typeInfo;rw [zao,zao];show ((zcn P (match P.info? t with|some i=>pure i|none=>_)).bind _)=_;rw [hi];simp at h;show zcn P (pure i.size)=_;rw [h];rfl
theorem zps {d : Nat} {t : TypeId} {a : Bool} {sh : List CK} (h : zgj P d t = some (a, sh)) (hs : (P.info? t).map (fun i => i.size) = some sh.length) (xs : List Value) (off : Nat) (hl : off + sh.length ≤ xs.length) :
    zcn P (part t xs.toArray off)=some (valA a ((xs.drop off).take sh.length)):=by
  unfold part;rw [zao,ycm h]
  cases a with
  |true =>
    show zcn P (do let n ← sizeOf t;pure (Value.agg (xs.toArray.extract off (off+n))))=_;rw [zao,zys hs];show some (Value.agg (xs.toArray.extract off (off+sh.length)))=_;rw [List.extract_toArray,List.extract_eq_take_drop,Nat.add_sub_cancel_left];rfl
  |false =>
    obtain ⟨c,rfl⟩:=z6z h;simp only [List.length_cons,List.length_nil,Nat.zero_add] at hl ⊢;show zcn P (match xs.toArray[off]? with|some v=>pure v|none=>_)=_;rw [List.getElem?_toArray,List.getElem?_eq_getElem (by omega),List.drop_eq_getElem_cons (by omega)];rfl
theorem zua {g:TypeId→Option (Bool×List CK)}:∀ {l:List Field} {off:Nat} {sh:List CK} {xs ys:List Value},zl9 P g l off=some sh→xs.length=off+sh.length→ys.length=off+sh.length →
    (l.all fun f=>match g f.type with|some (_,s)=>eqVs ((xs.drop f.offset).take s.length) ((ys.drop f.offset).take s.length)|none=>true)=eqVs (xs.drop off) (ys.drop off)
  |[],off,sh,xs,ys,h,hx,hy=>by
    simp only [zl9,Option.some.injEq] at h;subst h;rw [List.drop_of_length_le (by simp at hx;omega),List.drop_of_length_le (by simp at hy;omega)];rfl
  |f :: l,off,sh,xs,ys,h,hx,hy=>by
    unfold zl9 at h;split at h
    · rename_i a s sz hg hs;split at h
      · rename_i hc;split at h
        · rename_i r hr;cases h;rw [List.length_append] at hx hy;rw [List.all_cons,zua hr (by omega) (by omega),hg];simp only;rw [hc.2.1]
          have hr2:eqVs (xs.drop off) (ys.drop off)=(eqVs ((xs.drop off).take s.length) ((ys.drop off).take s.length) && eqVs (xs.drop (off+s.length)) (ys.drop (off+s.length))):=by
            conv=>lhs;rw [← List.take_append_drop s.length (xs.drop off),← List.take_append_drop s.length (ys.drop off)]
            rw [zjy (by rw [List.length_take,List.length_take,List.length_drop,List.length_drop];omega),List.drop_drop,List.drop_drop]
          rw [hr2]
        · cases h
      · cases h
    · cases h
theorem zl8 {g : TypeId → Option (Bool × List CK)} : ∀ {l : List Field} {off : Nat} {sh : List CK} {xs : List Value}, zl9 P g l off = some sh → xs.length = off + sh.length → zfa sh (xs.drop off) = true → ∀ f, f ∈ l → ∃ a s, g f.type = some (a, s) ∧ (P.info? f.type).map (fun i => i.size) = some s.length ∧ f.name ≠ "_" ∧ f.offset + s.length ≤ xs.length ∧ zfa s ((xs.drop f.offset).take s.length) = true
  |[],off,sh,xs,h,hx,hf,f,hm=>by cases hm
  |f' :: l,off,sh,xs,h,hx,hf,f,hm=>by
    unfold zl9 at h;split at h
    · rename_i a s sz hg hs;split at h
      · rename_i hc;split at h
        · rename_i r hr;cases h;rw [List.length_append] at hx;obtain ⟨f1,f2⟩:=zn7 hf;rw [List.drop_drop] at f2
          cases hm with
          |head=>exact ⟨a,s,hg,by rw [hs,hc.2.2],hc.1,by rw [hc.2.1];omega,by rw [hc.2.1];exact f1⟩
          |tail _ hm=>exact zl8 hr (by omega) f2 f hm
        · cases h
      · cases h
    · cases h
theorem z3y {s:List CK}:∀ (n k:Nat) {xs ys:List Value},xs.length=(k+n)*s.length→ys.length=(k+n)*s.length →
    ((List.range' k n).all fun i=>eqVs ((xs.drop (i*s.length)).take s.length) ((ys.drop (i*s.length)).take s.length))=eqVs (xs.drop (k*s.length)) (ys.drop (k*s.length))
  |0,k,xs,ys,hx,hy=>by
    rw [List.drop_of_length_le (by rw [hx];exact Nat.le_refl _),List.drop_of_length_le (by rw [hy];exact Nat.le_refl _)];rfl
  |n+1,k,xs,ys,hx,hy=>by
    have e:(k+(n+1))*s.length=k*s.length+s.length+n*s.length:=by rw [Nat.add_mul,Nat.add_mul,Nat.one_mul];omega
    rw [List.range'_succ,List.all_cons,z3y n (k+1) (by rw [hx];congr 1;omega) (by rw [hy];congr 1;omega)];rw [Nat.add_mul,Nat.one_mul,← List.drop_drop,← List.drop_drop,← zjy (by rw [List.length_take,List.length_take,List.length_drop,List.length_drop];omega),List.take_append_drop,List.take_append_drop]
theorem zvw {s:List CK}:∀ {n:Nat} {xs:List Value},zfa (List.replicate n s).flatten xs=true→∀ i,i<n→zfa s ((xs.drop (i*s.length)).take s.length)=true
  |0,xs,h,i,hi=>by omega
  |n+1,xs,h,i,hi=>by
    rw [List.replicate_succ,List.flatten_cons] at h;obtain ⟨h1,h2⟩:=zn7 h
    cases i with
    |zero=>simpa using h1
    |succ i =>
      have:=zvw h2 i (by omega);rw [List.drop_drop] at this;rw [Nat.add_mul,Nat.one_mul,Nat.add_comm];exact this
theorem yj1:∀ (d:Nat) {t:TypeId} {a:Bool} {sh:List CK},zgj P d t=some (a,sh)→∀ {xs ys:List Value},zfa sh xs=true→zfa sh ys=true→zcn P (Op.equalIn d t (valA a xs) (valA a ys))=some (eqVs xs ys):=by
  intro d
  induction d with
  |zero=>intro t a sh h;simp [zgj] at h
  |succ d ih =>
    intro t a sh h xs ys hx hy;have hpu:∀ {α:Type} (v:α),zcn P (pure v:Sem α)=some v:=fun v=>rfl;unfold zgj at h;unfold Op.equalIn;rw [zao]
    cases hu:P.underlying t with
    |none=>rw [hu] at h;simp at h
    |some u =>
      rw [hu] at h;rw [zep hu]
      cases u with
      |int k =>
        simp at h;obtain ⟨rfl,rfl⟩:=h;obtain ⟨v,rfl,h1⟩:=zlo hx;obtain ⟨w,rfl,h2⟩:=zlo hy
        · cases v<;>simp [ckV] at h1;cases w<;>simp [ckV] at h2;subst h1 h2
          simp [valA,eqVs,zrw,hpu]
      |bool =>
        simp at h;obtain ⟨rfl,rfl⟩:=h;obtain ⟨v,rfl,h1⟩:=zlo hx;obtain ⟨w,rfl,h2⟩:=zlo hy
        · cases v<;>simp [ckV] at h1;cases w<;>simp [ckV] at h2
          simp [valA,eqVs,zrw,hpu]
      |string =>
        simp at h;obtain ⟨rfl,rfl⟩:=h;obtain ⟨v,rfl,h1⟩:=zlo hx;obtain ⟨w,rfl,h2⟩:=zlo hy
        · cases v<;>simp [ckV] at h1;cases w<;>simp [ckV] at h2
          simp [valA,eqVs,zrw,hpu]
      |struct fs =>
        simp only at h;split at h
        · simp at h
        · rename_i hst;split at h
          · rename_i l hl;simp at h;obtain ⟨rfl,rfl⟩:=h;have lx:=znb hx;have ly:=znb hy;have hall:=zua hl (by rw [lx];omega) (by rw [ly];omega);rw [List.drop_zero,List.drop_zero] at hall;simp only [valA,if_true,Option.bind_some];rw [zao];show (((some P:Option Program)).bind _)=_;simp only [Option.bind_some,if_neg hst];rw [zao];show ((zcn P (forIn fs _ _)).bind _)=_;rw [← Array.forIn_toList];rw [zvz (P:=P) (none,()) (some false,()) _ (fun f=>match zgj P d f.type with|some (_,s)=>eqVs ((xs.drop f.offset).take s.length) ((ys.drop f.offset).take s.length)|none=>true) fs.toList ?_]
            · rw [hall];cases eqVs xs ys<;>rfl
            · intro f hf;obtain ⟨a,s,g1,g2,g3,g4,g5⟩:=zl8 hl (by rw [lx];omega) (by rw [List.drop_zero];exact hx) f hf;obtain ⟨a',s',g1',_,_,g4',g5'⟩:=zl8 hl (by rw [ly];omega) (by rw [List.drop_zero];exact hy) f hf;rw [g1] at g1';cases g1';rw [if_pos g3,zao,zps g1 g2 _ _ g4];simp only [Option.bind_some];rw [zao,zps g1 g2 _ _ g4'];simp only [Option.bind_some];rw [zao,ih g1 g5 g5',g1];simp only [Option.bind_some];have hq:∀ q:Bool,zcn P (if (!q)=true then pure (ForInStep.done (some false,())) else pure (ForInStep.yield (none,())):Sem (ForInStep (Option Bool×Unit)))=some (if q=true then .yield (none,()) else .done (some false,())):=by intro q;cases q<;>rfl
              exact hq _
          · simp at h
      |array n e =>
        simp only at h;split at h
        · rename_i ae se sz hse hsz;split at h
          · rename_i hc;subst hc;simp at h;obtain ⟨rfl,rfl⟩:=h;have lx:=znb hx;have ly:=znb hy;have hlen:(List.replicate n se).flatten.length=n*se.length:=by simp
            rw [hlen] at lx ly;simp only [valA,if_true,Option.bind_some];rw [zao,zys hsz];simp only [Option.bind_some,z9m];rw [zao,zvz (P:=P) (none,()) (some false,()) _ (fun i=>eqVs ((xs.drop (i*se.length)).take se.length) ((ys.drop (i*se.length)).take se.length)) (List.range' 0 n) ?_]
            · rw [z3y n 0 (by rw [lx];congr 1;omega) (by rw [ly];congr 1;omega),Nat.zero_mul,List.drop_zero,List.drop_zero];cases eqVs xs ys<;>rfl
            · intro i hi;have hin:i<n:=by have:=List.mem_range'_1.1 hi;omega
              have hle:i*se.length+se.length≤n*se.length:=by
                have:=Nat.mul_le_mul_right se.length (show i+1≤n by omega);rw [Nat.add_mul,Nat.one_mul] at this;exact this
              rw [zao,zps hse hsz _ _ (by omega)];simp only [Option.bind_some];rw [zao,zps hse hsz _ _ (by omega)];simp only [Option.bind_some];rw [zao,ih hse (zvw hx i hin) (zvw hy i hin)];simp only [Option.bind_some];have hq:∀ q:Bool,zcn P (if (!q)=true then pure (ForInStep.done (some false,())) else pure (ForInStep.yield (none,())):Sem (ForInStep (Option Bool×Unit)))=some (if q=true then .yield (none,()) else .done (some false,())):=by intro q;cases q<;>rfl
              exact hq _
          · simp at h
        · simp at h
      |_=>simp at h
variable {Γ:Env} {S:TS} {t:TypeId} {x y:Operand}
theorem zu1 {sh:List CK} {l m:List T} {vs ws:List Value} (ht:zgj P 10000 t=some (true,sh)) (hq:P.eqGuardType P.depth t=false) (hl:zfo l=some vs) (hm:zfo m=some ws) (hx:zfa sh vs=true) (hy:zfa sh ws=true) {b:Bool} (hb:eqVs vs ws=b) :
    tBin P Γ S t .eql x y (.agg l) (.agg m)=some (.bool b)∧tBin P Γ S t .neq x y (.agg l) (.agg m)=some (.bool (!b)):=by
  have h:zcn P (Op.equal t (.agg vs.toArray) (.agg ws.toArray))=some b:=by rw [← hb];exact yj1 10000 ht hx hy
  have hg:∀ op,op=.eql∨op=.neq→zcn P (eqGuard op t x y (.agg vs.toArray) (.agg ws.toArray))=some ():=by
    intro op hop;rcases hop with rfl|rfl
    · show zcn P (if !(P.eqGuardType P.depth t) then pure () else _)=some ();rw [hq];rfl
    · show zcn P (if !(P.eqGuardType P.depth t) then pure () else _)=some ();rw [hq];rfl
  have he:zcn P (binOp .eql t (.agg vs.toArray) (.agg ws.toArray))=some (.bool b):=by
    show zcn P (do pure (Value.bool (← Op.equal t (.agg vs.toArray) (.agg ws.toArray))):Sem Value)=_;rw [zao,h];rfl
  have hn:zcn P (binOp .neq t (.agg vs.toArray) (.agg ws.toArray))=some (.bool (!b)):=by
    show zcn P (do pure (Value.bool (!(← Op.equal t (.agg vs.toArray) (.agg ws.toArray)))):Sem Value)=_;rw [zao,h];rfl
  constructor
  · show zuo P t .eql x y _ _=_;unfold zuo;rw [hl,hm];simp only;rw [zao,hg _ (.inl rfl)];show (match zcn P (binOp .eql t (.agg vs.toArray) (.agg ws.toArray)) with|some (.bool r)=>some (T.bool r)|_=>none)=_;rw [he]
  · show zuo P t .neq x y _ _=_;unfold zuo;rw [hl,hm];simp only;rw [zao,hg _ (.inr rfl)];show (match zcn P (binOp .neq t (.agg vs.toArray) (.agg ws.toArray)) with|some (.bool r)=>some (T.bool r)|_=>none)=_;rw [hn]
theorem zjp:∀ {a b:List T} {x y:List Value},zfo a=some x→zfo b=some y→zfo (a++b)=some (x++y)
  |[],b,x,y,h,h2=>by simp only [zfo,Option.some.injEq] at h;subst h;exact h2
  |t :: a,b,x,y,h,h2=>by
    unfold zfo at h;split at h
    · rename_i v r e1 e2;cases h;rw [List.cons_append];unfold zfo;rw [e1,zjp e2 h2];rfl
    · cases h
theorem zyt {k:IntKind}:∀ {a b:List Int},a.length=b.length→eqVs (a.map (Value.int k)) (b.map (Value.int k))=decide (a=b)
  |[],[],_=>rfl
  |x :: a,y :: b,h=>by
    rw [List.map_cons,List.map_cons,eqVs,zyt (Nat.succ.inj h)];simp only [zrw,List.cons.injEq,Bool.decide_and]
    congr 1
  |[],_ :: _,h=>by simp at h
  |_ :: _,[],h=>by simp at h
theorem z0v {k:IntKind} {n:Nat} (a b:Ar n):eqVs (a.l.map (Value.int k)) (b.l.map (Value.int k))=decide (a=b):=by
  rw [zyt (by rw [a.h,b.h])];exact decide_eq_decide.2 (Ar.eq_iff.symm)
theorem zyr {k:IntKind}:∀ {l:List Int} {r:List CK} {vs:List Value},zfa r vs=true→zfa (List.replicate l.length (.int k)++r) (l.map (Value.int k)++vs)=true
  |[],r,vs,h=>h
  |x :: l,r,vs,h=>by
    rw [List.length_cons,List.replicate_succ,List.map_cons,List.cons_append,List.cons_append,zfa,zyr h];simp [ckV]
end
end
section
open Go Go.RowKit
section
variable {k:IntKind} {n m:Nat} (a b:Ar n) (r xs:List T)
theorem sgT (h:n≤m):(a.l.map (T.int k)++r).take m=a.l.map (T.int k)++r.take (m - n):=by
  rw [List.take_append,List.take_of_length_le (by rw [List.length_map,a.h];exact h),List.length_map,a.h]
theorem sgT1 (h:n≤m):(a.l.map (T.int k)).take m=a.l.map (T.int k):=List.take_of_length_le (by rw [List.length_map,a.h];exact h)
theorem sgD (h:n≤m):(a.l.map (T.int k)++r).drop m=r.drop (m - n):=by
  rw [List.drop_append,List.drop_of_length_le (by rw [List.length_map,a.h];exact h),List.nil_append,List.length_map,a.h]
theorem sgD1 (h:n≤m):(a.l.map (T.int k)).drop m=[]:=List.drop_of_length_le (by rw [List.length_map,a.h];exact h)
theorem sgG (h:n≤m):(a.l.map (T.int k)++r)[m]?=r[m - n]?:=by
  rw [List.getElem?_append_right (by rw [List.length_map,a.h];exact h),List.length_map,a.h]
theorem splA:spl (a.l.map (T.int k)++r) 0 (b.l.map (T.int k)++xs)=b.l.map (T.int k)++spl r 0 xs:=by
  unfold spl;rw [List.take_zero,List.take_zero,List.nil_append,List.nil_append,List.append_assoc,Nat.zero_add,Nat.zero_add,List.length_append,List.length_map,b.h,← List.drop_drop];congr 3;rw [List.drop_append,List.drop_of_length_le (by rw [List.length_map,a.h];exact Nat.le_refl _),List.length_map,a.h,Nat.sub_self];rfl
theorem yiu:spl (a.l.map (T.int k)++r) 0 (b.l.map (T.int k))=b.l.map (T.int k)++r:=by
  have:=splA (k:=k) a b r [];rw [List.append_nil] at this;rw [this,yg2]
theorem yit:spl (a.l.map (T.int k)) 0 (b.l.map (T.int k))=b.l.map (T.int k):=arSpl a b
theorem splS (h:n≤m):spl (a.l.map (T.int k)++r) m xs=a.l.map (T.int k)++spl r (m - n) xs:=by
  unfold spl;rw [sgT a r h,List.drop_append,List.drop_of_length_le (by rw [List.length_map,a.h];omega),List.length_map,a.h,List.nil_append];simp only [List.append_assoc];congr 4;omega
theorem z60 (v:T) (h:n≤m):(a.l.map (T.int k)++r).set m v=a.l.map (T.int k)++r.set (m - n) v:=by
  rw [List.set_append,if_neg (by rw [List.length_map,a.h];omega),List.length_map,a.h]
end
theorem zy4 {k:IntKind} {n off:Nat} {L r:List T} (a:Ar n) {i:Int} (h:0≤i∧i<(n:Int)) (hL:L.drop off=a.l.map (T.int k)++r:=by first|rfl | (simp (disch:=decide) only [List.append_assoc,List.append_nil,List.length_append,List.cons_append,List.nil_append,List.length_map,List.length_cons,List.length_nil,Ar.len,sgD,sgD1,List.drop_succ_cons,List.drop_zero,Nat.reduceSub,Nat.reduceAdd,Nat.zero_add];done)):L[off+i.toNat]?=some (T.int k (gx a.l i)):=by
  rw [← List.getElem?_drop,hL,List.getElem?_append_left (by rw [List.length_map,a.h];omega),List.getElem?_map,arIx a h];rfl
theorem zwe {k:IntKind} {n:Nat} {L r:List T} (a:Ar n) {i:Int} (h:0≤i∧i<(n:Int)) (hL:L=a.l.map (T.int k)++r:=by first|rfl | (simp (disch:=decide) only [List.append_assoc,List.append_nil,List.length_append,List.cons_append,List.nil_append,List.length_map,List.length_cons,List.length_nil,Ar.len,sgD,sgD1,List.drop_succ_cons,List.drop_zero,Nat.reduceSub,Nat.reduceAdd,Nat.zero_add];done)):L[i.toNat]?=some (T.int k (gx a.l i)):=by
  have:=zy4 (off:=0) (L:=L) a h (by rw [List.drop_zero];exact hL)
  rwa [Nat.zero_add] at this
theorem setAt {k:IntKind} {n off:Nat} {L L2 p r:List T} (a:Ar n) {i:Int} (v:Int) (h:0≤i∧i<(n:Int)) (hL:L=p++(a.l.map (T.int k)++r):=by first|rfl | (simp (disch:=decide) only [List.append_assoc,List.append_nil,List.length_append,List.cons_append,List.nil_append,List.length_map,List.length_cons,List.length_nil,Ar.len,sgD,sgD1,List.drop_succ_cons,List.drop_zero,Nat.reduceSub,Nat.reduceAdd,Nat.zero_add];done)) (hp:p.length=off:=by first|rfl | (simp (disch:=decide) only [List.append_assoc,List.append_nil,List.length_append,List.cons_append,List.nil_append,List.length_map,List.length_cons,List.length_nil,Ar.len,sgD,sgD1,List.drop_succ_cons,List.drop_zero,Nat.reduceSub,Nat.reduceAdd,Nat.zero_add];done)) (h2:L2=p++((a.set i v).l.map (T.int k)++r):=by first|rfl | (simp (disch:=decide) only [List.append_assoc,List.append_nil,List.length_append,List.cons_append,List.nil_append,List.length_map,List.length_cons,List.length_nil,Ar.len,sgD,sgD1,List.drop_succ_cons,List.drop_zero,Nat.reduceSub,Nat.reduceAdd,Nat.zero_add];done)):spl L (off+i.toNat) [T.int k v]=L2:=by
  subst hL h2;have hs:=ykh (k:=k) a v h;unfold spl at hs ⊢;have hi:i.toNat+1≤n:=by omega
  rw [← hs];simp only [List.length_cons,List.length_nil,Nat.zero_add];rw [List.take_append,List.take_of_length_le (show p.length≤off+i.toNat by omega),show off+i.toNat - p.length=i.toNat by omega,List.take_append_of_le_length (by rw [List.length_map,a.h];omega)];rw [List.drop_append,List.drop_of_length_le (show p.length≤off+i.toNat+1 by omega),show off+i.toNat+1 - p.length=i.toNat+1 by omega,List.nil_append,List.drop_append_of_le_length (by rw [List.length_map,a.h];omega)];simp only [List.append_assoc]
theorem yiw {k:IntKind} {n:Nat} {L L2 r:List T} (a:Ar n) {i:Int} (v:Int) (h:0≤i∧i<(n:Int)) (hL:L=a.l.map (T.int k)++r:=by first|rfl | (simp (disch:=decide) only [List.append_assoc,List.append_nil,List.length_append,List.cons_append,List.nil_append,List.length_map,List.length_cons,List.length_nil,Ar.len,sgD,sgD1,List.drop_succ_cons,List.drop_zero,Nat.reduceSub,Nat.reduceAdd,Nat.zero_add];done)) (h2:L2=(a.set i v).l.map (T.int k)++r:=by first|rfl | (simp (disch:=decide) only [List.append_assoc,List.append_nil,List.length_append,List.cons_append,List.nil_append,List.length_map,List.length_cons,List.length_nil,Ar.len,sgD,sgD1,List.drop_succ_cons,List.drop_zero,Nat.reduceSub,Nat.reduceAdd,Nat.zero_add];done)):spl L i.toNat [T.int k v]=L2:=by
  have:=setAt (off:=0) (p:=[]) (L:=L) (L2:=L2) a v h hL rfl h2
  rwa [Nat.zero_add] at this
/-! bits of integers -/
def iAnd (k:IntKind) (a b:Int):Int:=k.wrap (BitVec.ofInt k.bits a &&& BitVec.ofInt k.bits b).toNat
def iOr (k:IntKind) (a b:Int):Int:=k.wrap (BitVec.ofInt k.bits a ||| BitVec.ofInt k.bits b).toNat
def iXor (k:IntKind) (a b:Int):Int:=k.wrap (BitVec.ofInt k.bits a ^^^ BitVec.ofInt k.bits b).toNat
def yjw (k:IntKind) (a b:Int):Int:=k.wrap (BitVec.ofInt k.bits a &&& ~~~ BitVec.ofInt k.bits b).toNat
def iShl (k:IntKind) (a b:Int):Int:=k.wrap (a*2 ^ (min b.toNat k.bits))
def iShr (k:IntKind) (a b:Int):Int:=a.fdiv (2 ^ (min b.toNat k.bits))
theorem yeo {k:IntKind} {a b:Int}:zbn .and k k a b=some (.int k (iAnd k a b)):=yjv
theorem yjp {k:IntKind} {a b:Int}:zbn .or k k a b=some (.int k (iOr k a b)):=ib_or
theorem yen {k:IntKind} {a b:Int}:zbn .xor k k a b=some (.int k (iXor k a b)):=yjs
theorem z8v {k:IntKind} {a b:Int}:zbn .andNot k k a b=some (.int k (yjw k a b)):=by simp [zbn,yjw]
theorem z8u {k k':IntKind} {a b:Int} (h:0≤b):zbn .shl k k' a b=some (.int k (iShl k a b)):=yju h
theorem zx8 {k k':IntKind} {a b:Int} (h:0≤b):zbn .shr k k' a b=some (.int k (iShr k a b)):=yjt h
theorem zz0 {t:T} {l:List T} {v:Value} {r:List Value} (h:ybk t=some v) (k:zfo l=some r):zfo (t :: l)=some (v :: r):=by
  unfold zfo;rw [h,k]
theorem z9n {c:CK} {v:Value} {r:List CK} {vs:List Value} (h:ckV c v=true) (k:zfa r vs=true):zfa (c :: r) (v :: vs)=true:=by
  rw [zfa,h,k];rfl
theorem yj6 (k:IntKind) (n:Int):ckV (.int k) (.int k n)=true:=by simp [ckV]
theorem z0t {k:IntKind} {n:Nat} (a:Ar n) {r:List CK} {vs:List Value} (h:zfa r vs=true):zfa (List.replicate n (.int k)++r) (a.l.map (Value.int k)++vs)=true:=by
  have:=zyr (k:=k) (l:=a.l) h
  rwa [a.h] at this
theorem z3u {k:IntKind} {n:Nat} (a:Ar n):zfa (List.replicate n (.int k)) (a.l.map (Value.int k))=true:=by
  have:=z0t (k:=k) a (r:=[]) (vs:=[]) rfl
  rwa [List.append_nil,List.append_nil] at this
theorem z9y {k:IntKind} {n:Nat} (a b:Ar n) (x y:List Value):eqVs (a.l.map (Value.int k)++x) (b.l.map (Value.int k)++y)=(decide (a=b) && eqVs x y):=by
  rw [zjy (by rw [List.length_map,List.length_map,a.h,b.h]),z0v]
theorem z87 {k:IntKind} {m:Nat} (l:List Int):(T.agg (l.map (T.int k))).ids m=true:=zfq l
theorem ya1 (l:List T):l++[]=l:=List.append_nil l
theorem zzl (a b c:List T):a++b++c=a++(b++c):=List.append_assoc a b c
theorem zrc (a b:List T):(a++b).length=a.length+b.length:=List.length_append
theorem ya3 (a b:List T) (p:T→Bool):(a++b).all p=(a.all p && b.all p):=List.all_append
theorem zwr (n:Nat):([]:List T).take n=[]:=List.take_nil
theorem zyv (n:Nat):([]:List T).drop n=[]:=List.drop_nil
end
section
open Go Go.RowKit
set_option maxRecDepth 100000
noncomputable def LL:List Nat:=[3,4,5,6,7,8,9,10,11,12,13,14,15,16,17,18,19,20,21,22,23,24,25,26,27,28,29,30,31,32,33,34,35,36,37,38,39,40,41,42,43,44,45,46,47,48,49,50,51,52,53,54,55,56,57,58,59,60,61,62,63,64,65,66,67,68,69,70,71,72,73,74,75,76,77,78,79,80,81,82,83,84,85,86,87,88,89,90,91,92,93,94,95,96,97,98,99,100,101,102,103,104,105,106,107,108,109,110,111,112,113,114,115,116,117,118,119,120,121,122,123,124,125,126,127,128,129,130,131,132,133,134,135,136,137,138,139,140,141,142,143,144,145,146,147,148,149,150,151,152]
def GG:List Nat:=[]
noncomputable def EE (ax:Axs):Env:=zeq Tryz.prog LL ax
theorem zn9 (ax:Axs):zc3 Tryz.prog (EE ax):=z9z _ _ _
theorem zna:zik Tryz.prog GG LL=true:=by kernel_rfl
theorem z0e:Tryz.prog.follows .mixedOrders=true:=by kernel_rfl
noncomputable def aggO:Option (List T)→Option T
  |some l=>some (.agg l)
  |none=>none
theorem fn8 (ax:Axs):(EE ax).fn.at 8=some Tryz.f8:=by kernel_rfl
theorem fn11 (ax:Axs):(EE ax).fn.at 11=some Tryz.f11:=by kernel_rfl
theorem fn12 (ax:Axs):(EE ax).fn.at 12=some Tryz.f12:=by kernel_rfl
theorem fn16 (ax:Axs):(EE ax).fn.at 16=some Tryz.f16:=by kernel_rfl
theorem fn18 (ax:Axs):(EE ax).fn.at 18=some Tryz.f18:=by kernel_rfl
theorem fn40 (ax:Axs):(EE ax).fn.at 40=some Tryz.f40:=by kernel_rfl
theorem fn41 (ax:Axs):(EE ax).fn.at 41=some Tryz.f41:=by kernel_rfl
theorem fn42 (ax:Axs):(EE ax).fn.at 42=some Tryz.f42:=by kernel_rfl
theorem fn43 (ax:Axs):(EE ax).fn.at 43=some Tryz.f43:=by kernel_rfl
theorem fn44 (ax:Axs):(EE ax).fn.at 44=some Tryz.f44:=by kernel_rfl
theorem fn55 (ax:Axs):(EE ax).fn.at 55=some Tryz.f55:=by kernel_rfl
theorem fn75 (ax:Axs):(EE ax).fn.at 75=some Tryz.f75:=by kernel_rfl
theorem fn79 (ax:Axs):(EE ax).fn.at 79=some Tryz.f79:=by kernel_rfl
theorem fn80 (ax:Axs):(EE ax).fn.at 80=some Tryz.f80:=by kernel_rfl
theorem fn81 (ax:Axs):(EE ax).fn.at 81=some Tryz.f81:=by kernel_rfl
theorem fn82 (ax:Axs):(EE ax).fn.at 82=some Tryz.f82:=by kernel_rfl
theorem fn83 (ax:Axs):(EE ax).fn.at 83=some Tryz.f83:=by kernel_rfl
theorem fn84 (ax:Axs):(EE ax).fn.at 84=some Tryz.f84:=by kernel_rfl
theorem fn85 (ax:Axs):(EE ax).fn.at 85=some Tryz.f85:=by kernel_rfl
theorem fn86 (ax:Axs):(EE ax).fn.at 86=some Tryz.f86:=by kernel_rfl
theorem fn87 (ax:Axs):(EE ax).fn.at 87=some Tryz.f87:=by kernel_rfl
theorem fn88 (ax:Axs):(EE ax).fn.at 88=some Tryz.f88:=by kernel_rfl
theorem fn89 (ax:Axs):(EE ax).fn.at 89=some Tryz.f89:=by kernel_rfl
theorem fn90 (ax:Axs):(EE ax).fn.at 90=some Tryz.f90:=by kernel_rfl
theorem fn91 (ax:Axs):(EE ax).fn.at 91=some Tryz.f91:=by kernel_rfl
theorem fn92 (ax:Axs):(EE ax).fn.at 92=some Tryz.f92:=by kernel_rfl
theorem fn93 (ax:Axs):(EE ax).fn.at 93=some Tryz.f93:=by kernel_rfl
theorem fn94 (ax:Axs):(EE ax).fn.at 94=some Tryz.f94:=by kernel_rfl
theorem fn95 (ax:Axs):(EE ax).fn.at 95=some Tryz.f95:=by kernel_rfl
theorem fn96 (ax:Axs):(EE ax).fn.at 96=some Tryz.f96:=by kernel_rfl
theorem fn97 (ax:Axs):(EE ax).fn.at 97=some Tryz.f97:=by kernel_rfl
theorem fn98 (ax:Axs):(EE ax).fn.at 98=some Tryz.f98:=by kernel_rfl
theorem fn99 (ax:Axs):(EE ax).fn.at 99=some Tryz.f99:=by kernel_rfl
theorem fn100 (ax:Axs):(EE ax).fn.at 100=some Tryz.f100:=by kernel_rfl
theorem fn113 (ax:Axs):(EE ax).fn.at 113=some Tryz.f113:=by kernel_rfl
theorem yhr (ax:Axs):(EE ax).fn.at 118=some Tryz.f118:=by kernel_rfl
theorem yhq (ax:Axs):(EE ax).fn.at 125=some Tryz.f125:=by kernel_rfl
theorem fn126 (ax:Axs):(EE ax).fn.at 126=some Tryz.f126:=by kernel_rfl
theorem fn127 (ax:Axs):(EE ax).fn.at 127=some Tryz.f127:=by kernel_rfl
theorem fn128 (ax:Axs):(EE ax).fn.at 128=some Tryz.f128:=by kernel_rfl
theorem fn129 (ax:Axs):(EE ax).fn.at 129=some Tryz.f129:=by kernel_rfl
theorem fn130 (ax:Axs):(EE ax).fn.at 130=some Tryz.f130:=by kernel_rfl
theorem fn131 (ax:Axs):(EE ax).fn.at 131=some Tryz.f131:=by kernel_rfl
theorem fn132 (ax:Axs):(EE ax).fn.at 132=some Tryz.f132:=by kernel_rfl
theorem fn133 (ax:Axs):(EE ax).fn.at 133=some Tryz.f133:=by kernel_rfl
theorem fn145 (ax:Axs):(EE ax).fn.at 145=some Tryz.f145:=by kernel_rfl
theorem fn146 (ax:Axs):(EE ax).fn.at 146=some Tryz.f146:=by kernel_rfl
theorem fn151 (ax:Axs):(EE ax).fn.at 151=some Tryz.f151:=by kernel_rfl
theorem ti3 (ax:Axs):(EE ax).ti.at 3=some ⟨.int .i64,1,8,[.int .i64 0]⟩:=by kernel_rfl
theorem ti4 (ax:Axs):(EE ax).ti.at 4=some ⟨.bool,1,1,[.bool false]⟩:=by kernel_rfl
theorem ti5 (ax:Axs):(EE ax).ti.at 5=some ⟨.int .u8,1,1,[.int .u8 0]⟩:=by kernel_rfl
theorem ti9 (ax:Axs):(EE ax).ti.at 9=some ⟨.string,1,16,[.string ⟨#[]⟩]⟩:=by kernel_rfl
theorem ti22 (ax:Axs):(EE ax).ti.at 22=some ⟨.slice 80,1,24,[.slice none 0 0]⟩:=by kernel_rfl
theorem ti23 (ax:Axs):(EE ax).ti.at 23=some ⟨.slice 82,1,24,[.slice none 0 0]⟩:=by kernel_rfl
theorem ti24 (ax:Axs):(EE ax).ti.at 24=some ⟨.slice 85,1,24,[.slice none 0 0]⟩:=by kernel_rfl
theorem yfw (ax:Axs) (S:TS) (b off N:Nat):zaf (EE ax) S 26 0 (.ptr b off N)=bif S.has b N then some (.ptr b (off+0) N) else none:=by kernel_rfl
theorem yfv (ax:Axs) (S:TS) (b off N:Nat):zaf (EE ax) S 26 1 (.ptr b off N)=bif S.has b N then some (.ptr b (off+1) N) else none:=by kernel_rfl
theorem yfc (ax:Axs) (S:TS) (l:List T):zaf (EE ax) S 26 1 (.cp l)=some (.cp (l.drop 1)):=by kernel_rfl
theorem yfu (ax:Axs) (S:TS) (b off N:Nat):zaf (EE ax) S 26 2 (.ptr b off N)=bif S.has b N then some (.ptr b (off+2) N) else none:=by kernel_rfl
noncomputable def fs26:Array Field:=match Tryz.prog.underlying 26 with|some (.struct fs)=>fs|_=>#[]
theorem ti26 (ax:Axs):(EE ax).ti.at 26=some ⟨.struct fs26,3,72,[.slice none 0 0,.slice none 0 0,.slice none 0 0]⟩:=by kernel_rfl
theorem sr27 (ax:Axs):srcT (EE ax) 27=true:=by kernel_rfl
theorem ti28 (ax:Axs):(EE ax).ti.at 28=some ⟨.slice 44,1,24,[.slice none 0 0]⟩:=by kernel_rfl
theorem sr28 (ax:Axs):srcT (EE ax) 28=true:=by kernel_rfl
theorem ti30 (ax:Axs):(EE ax).ti.at 30=some ⟨.int .i64,1,8,[.int .i64 0]⟩:=by kernel_rfl
theorem tz39 (ax:Axs):(EE ax).ti.at 39=some ⟨.array 10 3,10,80,zVs 10 .i64⟩:=by kernel_rfl
def zS41:List Value:=[.int .i64 0,.int .i64 0,.int .i64 0,.int .i64 0,.int .i64 0,.int .i64 0,.int .i64 0,.int .i64 0,.int .i64 0,.int .i64 0,.int .i64 0,.int .i64 0,.int .i64 0,.int .i64 0,.int .i64 0,.int .i64 0,.int .i64 0,.int .i64 0,.int .i64 0,.int .i64 0]
theorem ydk:zfl zS41=some ((zA 10).l.map (T.int .i64)++((zA 10).l.map (T.int .i64))):=rfl
theorem z1i:zS41.length=20:=rfl
theorem yft (ax:Axs) (S:TS) (b off N:Nat):zaf (EE ax) S 41 0 (.ptr b off N)=bif S.has b N then some (.ptr b (off+0) N) else none:=by kernel_rfl
theorem yfs (ax:Axs) (S:TS) (b off N:Nat):zaf (EE ax) S 41 1 (.ptr b off N)=bif S.has b N then some (.ptr b (off+10) N) else none:=by kernel_rfl
noncomputable def fs41:Array Field:=match Tryz.prog.underlying 41 with|some (.struct fs)=>fs|_=>#[]
theorem bt41 (ax:Axs) (ρ:Operand→T) (parts:List (Nat×Operand)):zkh (EE ax) ρ 41 parts=aggO (zez zS41 (zda (zgm (EE ax) fs41) ρ parts)):=by kernel_rfl
theorem ti41 (ax:Axs):(EE ax).ti.at 41=some ⟨.struct fs41,20,160,zS41⟩:=by kernel_rfl
theorem yed (ax:Axs):zgm (EE ax) fs41 0=some (0,10):=by kernel_rfl
theorem yec (ax:Axs):zgm (EE ax) fs41 1=some (10,10):=by kernel_rfl
theorem ti42 (ax:Axs):(EE ax).ti.at 42=some ⟨.slice 73,1,24,[.slice none 0 0]⟩:=by kernel_rfl
theorem sr42 (ax:Axs):srcT (EE ax) 42=true:=by kernel_rfl
def zS44:List Value:=[.int .i64 0,.int .i64 0,.int .i64 0,.int .i64 0,.int .i64 0,.int .i64 0,.int .i64 0,.int .i64 0,.int .i64 0,.int .i64 0,.int .i64 0,.int .i64 0,.int .i64 0,.int .i64 0,.int .i64 0,.int .i64 0,.int .i64 0,.int .i64 0,.int .i64 0,.int .i64 0,.int .i64 0,.int .i64 0,.slice none 0 0]
theorem ydj:zfl zS44=some (T.int .i64 0 :: ((zA 10).l.map (T.int .i64)++((zA 10).l.map (T.int .i64)++[T.int .i64 0,T.nils]))):=rfl
theorem z1h:zS44.length=23:=rfl
theorem yfr (ax:Axs) (S:TS) (b off N:Nat):zaf (EE ax) S 44 0 (.ptr b off N)=bif S.has b N then some (.ptr b (off+0) N) else none:=by kernel_rfl
theorem yfb (ax:Axs) (S:TS) (l:List T):zaf (EE ax) S 44 0 (.cp l)=some (.cp (l.drop 0)):=by kernel_rfl
theorem yfq (ax:Axs) (S:TS) (b off N:Nat):zaf (EE ax) S 44 1 (.ptr b off N)=bif S.has b N then some (.ptr b (off+1) N) else none:=by kernel_rfl
theorem yfa (ax:Axs) (S:TS) (l:List T):zaf (EE ax) S 44 1 (.cp l)=some (.cp (l.drop 1)):=by kernel_rfl
theorem yfp (ax:Axs) (S:TS) (b off N:Nat):zaf (EE ax) S 44 2 (.ptr b off N)=bif S.has b N then some (.ptr b (off+21) N) else none:=by kernel_rfl
theorem yfo (ax:Axs) (S:TS) (b off N:Nat):zaf (EE ax) S 44 3 (.ptr b off N)=bif S.has b N then some (.ptr b (off+22) N) else none:=by kernel_rfl
theorem ye9 (ax:Axs) (S:TS) (l:List T):zaf (EE ax) S 44 3 (.cp l)=some (.cp (l.drop 22)):=by kernel_rfl
noncomputable def fs44:Array Field:=match Tryz.prog.underlying 44 with|some (.struct fs)=>fs|_=>#[]
theorem bt44 (ax:Axs) (ρ:Operand→T) (parts:List (Nat×Operand)):zkh (EE ax) ρ 44 parts=aggO (zez zS44 (zda (zgm (EE ax) fs44) ρ parts)):=by kernel_rfl
theorem ti44 (ax:Axs):(EE ax).ti.at 44=some ⟨.struct fs44,23,200,zS44⟩:=by kernel_rfl
theorem yeb (ax:Axs):zgm (EE ax) fs44 0=some (0,1):=by kernel_rfl
theorem yea (ax:Axs):zgm (EE ax) fs44 2=some (21,1):=by kernel_rfl
theorem ti47 (ax:Axs):(EE ax).ti.at 47=some ⟨.slice 3,1,24,[.slice none 0 0]⟩:=by kernel_rfl
theorem sr47 (ax:Axs):srcT (EE ax) 47=true:=by kernel_rfl
theorem yfn (ax:Axs) (S:TS) (b off N:Nat):zaf (EE ax) S 49 0 (.ptr b off N)=bif S.has b N then some (.ptr b (off+0) N) else none:=by kernel_rfl
theorem yfm (ax:Axs) (S:TS) (b off N:Nat):zaf (EE ax) S 49 1 (.ptr b off N)=bif S.has b N then some (.ptr b (off+1) N) else none:=by kernel_rfl
noncomputable def fs49:Array Field:=match Tryz.prog.underlying 49 with|some (.struct fs)=>fs|_=>#[]
theorem ti49 (ax:Axs):(EE ax).ti.at 49=some ⟨.struct fs49,2,32,[.slice none 0 0,.int .i64 0]⟩:=by kernel_rfl
theorem ti52 (ax:Axs):(EE ax).ti.at 52=some ⟨.slice 39,1,24,[.slice none 0 0]⟩:=by kernel_rfl
theorem sr52 (ax:Axs):srcT (EE ax) 52=true:=by kernel_rfl
theorem ti68 (ax:Axs):(EE ax).ti.at 68=some ⟨.slice 5,1,24,[.slice none 0 0]⟩:=by kernel_rfl
theorem sr68 (ax:Axs):srcT (EE ax) 68=true:=by kernel_rfl
theorem ti73 (ax:Axs):(EE ax).ti.at 73=some ⟨.slice 94,1,24,[.slice none 0 0]⟩:=by kernel_rfl
theorem sr73 (ax:Axs):srcT (EE ax) 73=true:=by kernel_rfl
theorem ti75 (ax:Axs):(EE ax).ti.at 75=some ⟨.slice 9,1,24,[.slice none 0 0]⟩:=by kernel_rfl
theorem sr75 (ax:Axs):srcT (EE ax) 75=true:=by kernel_rfl
theorem ye8 (ax:Axs) (S:TS) (l:List T):zaf (EE ax) S 80 0 (.cp l)=some (.cp (l.drop 0)):=by kernel_rfl
theorem yfl (ax:Axs) (S:TS) (b off N:Nat):zaf (EE ax) S 80 2 (.ptr b off N)=bif S.has b N then some (.ptr b (off+2) N) else none:=by kernel_rfl
theorem yfk (ax:Axs) (S:TS) (b off N:Nat):zaf (EE ax) S 80 3 (.ptr b off N)=bif S.has b N then some (.ptr b (off+3) N) else none:=by kernel_rfl
noncomputable def fs80:Array Field:=match Tryz.prog.underlying 80 with|some (.struct fs)=>fs|_=>#[]
theorem ti80 (ax:Axs):(EE ax).ti.at 80=some ⟨.struct fs80,4,40,[.string ⟨#[]⟩,.bool false,.int .i64 0,.int .i64 0]⟩:=by kernel_rfl
theorem yfj (ax:Axs) (S:TS) (b off N:Nat):zaf (EE ax) S 82 0 (.ptr b off N)=bif S.has b N then some (.ptr b (off+0) N) else none:=by kernel_rfl
theorem ye7 (ax:Axs) (S:TS) (l:List T):zaf (EE ax) S 82 0 (.cp l)=some (.cp (l.drop 0)):=by kernel_rfl
theorem yfi (ax:Axs) (S:TS) (b off N:Nat):zaf (EE ax) S 82 1 (.ptr b off N)=bif S.has b N then some (.ptr b (off+1) N) else none:=by kernel_rfl
theorem ye6 (ax:Axs) (S:TS) (l:List T):zaf (EE ax) S 82 1 (.cp l)=some (.cp (l.drop 1)):=by kernel_rfl
theorem yfh (ax:Axs) (S:TS) (b off N:Nat):zaf (EE ax) S 82 2 (.ptr b off N)=bif S.has b N then some (.ptr b (off+2) N) else none:=by kernel_rfl
noncomputable def fs82:Array Field:=match Tryz.prog.underlying 82 with|some (.struct fs)=>fs|_=>#[]
theorem ti82 (ax:Axs):(EE ax).ti.at 82=some ⟨.struct fs82,3,24,[.int .i64 0,.int .i64 0,.int .i64 0]⟩:=by kernel_rfl
theorem ye5 (ax:Axs) (S:TS) (l:List T):zaf (EE ax) S 85 0 (.cp l)=some (.cp (l.drop 0)):=by kernel_rfl
theorem ye4 (ax:Axs) (S:TS) (l:List T):zaf (EE ax) S 85 1 (.cp l)=some (.cp (l.drop 1)):=by kernel_rfl
noncomputable def fs85:Array Field:=match Tryz.prog.underlying 85 with|some (.struct fs)=>fs|_=>#[]
theorem ti85 (ax:Axs):(EE ax).ti.at 85=some ⟨.struct fs85,2,24,[.string ⟨#[]⟩,.int .i64 0]⟩:=by kernel_rfl
def zS92:List Value:=[.int .i64 0,.int .i64 0,.int .i64 0,.int .i64 0,.int .i64 0,.int .i64 0,.int .i64 0,.int .i64 0,.int .i64 0,.int .i64 0,.int .i64 0,.int .i64 0,.int .i64 0,.int .i64 0,.int .i64 0,.int .i64 0,.int .i64 0,.int .i64 0,.int .i64 0,.int .i64 0]
theorem ydi:zfl zS92=some ((zA 10).l.map (T.int .i64)++((zA 10).l.map (T.int .i64))):=rfl
theorem z1g:zS92.length=20:=rfl
theorem yfg (ax:Axs) (S:TS) (b off N:Nat):zaf (EE ax) S 92 0 (.ptr b off N)=bif S.has b N then some (.ptr b (off+0) N) else none:=by kernel_rfl
theorem yff (ax:Axs) (S:TS) (b off N:Nat):zaf (EE ax) S 92 1 (.ptr b off N)=bif S.has b N then some (.ptr b (off+10) N) else none:=by kernel_rfl
noncomputable def fs92:Array Field:=match Tryz.prog.underlying 92 with|some (.struct fs)=>fs|_=>#[]
theorem ti92 (ax:Axs):(EE ax).ti.at 92=some ⟨.struct fs92,20,160,zS92⟩:=by kernel_rfl
def zS94:List Value:=[.int .i64 0,.int .i64 0,.int .i64 0,.int .i64 0,.int .i64 0,.int .i64 0,.int .i64 0,.int .i64 0,.int .i64 0,.int .i64 0,.int .i64 0,.int .i64 0,.int .i64 0,.int .i64 0,.int .i64 0,.int .i64 0,.int .i64 0,.int .i64 0,.int .i64 0,.int .i64 0,.int .i64 0]
theorem ydh:zfl zS94=some (T.int .i64 0 :: ((zA 10).l.map (T.int .i64)++((zA 10).l.map (T.int .i64)))):=rfl
theorem z1f:zS94.length=21:=rfl
theorem yfe (ax:Axs) (S:TS) (b off N:Nat):zaf (EE ax) S 94 0 (.ptr b off N)=bif S.has b N then some (.ptr b (off+0) N) else none:=by kernel_rfl
theorem yfd (ax:Axs) (S:TS) (b off N:Nat):zaf (EE ax) S 94 1 (.ptr b off N)=bif S.has b N then some (.ptr b (off+1) N) else none:=by kernel_rfl
theorem ye3 (ax:Axs) (S:TS) (l:List T):zaf (EE ax) S 94 1 (.cp l)=some (.cp (l.drop 1)):=by kernel_rfl
noncomputable def fs94:Array Field:=match Tryz.prog.underlying 94 with|some (.struct fs)=>fs|_=>#[]
theorem bt94 (ax:Axs) (ρ:Operand→T) (parts:List (Nat×Operand)):zkh (EE ax) ρ 94 parts=aggO (zez zS94 (zda (zgm (EE ax) fs94) ρ parts)):=by kernel_rfl
theorem ti94 (ax:Axs):(EE ax).ti.at 94=some ⟨.struct fs94,21,168,zS94⟩:=by kernel_rfl
theorem yd9 (ax:Axs):zgm (EE ax) fs94 0=some (0,1):=by kernel_rfl
noncomputable def fd96:TypeDesc:=match Tryz.prog.underlying 96 with|some d=>d|none=>.bool
theorem ti96 (ax:Axs):(EE ax).ti.at 96=some ⟨fd96,1,8,[.nilFunc]⟩:=by kernel_rfl
theorem yin (ax:Axs):(EE ax).ti.at 117=some ⟨.pointer 119,1,8,[.pointer none]⟩:=by kernel_rfl
theorem z9v (ax:Axs) (S:TS) (b off N:Nat):zaf (EE ax) S 119 0 (.ptr b off N)=bif S.has b N then some (.ptr b (off+0) N) else none:=by kernel_rfl
theorem z9u (ax:Axs) (S:TS) (b off N:Nat):zaf (EE ax) S 119 1 (.ptr b off N)=bif S.has b N then some (.ptr b (off+1) N) else none:=by kernel_rfl
noncomputable def yjy:Array Field:=match Tryz.prog.underlying 119 with|some (.struct fs)=>fs|_=>#[]
theorem ykd (ax:Axs) (ρ:Operand→T) (parts:List (Nat×Operand)):zkh (EE ax) ρ 119 parts=aggO (zez [.slice none 0 0,.int .i64 0] (zda (zgm (EE ax) yjy) ρ parts)):=by kernel_rfl
theorem z7w (ax:Axs):zgm (EE ax) yjy 0=some (0,1):=by kernel_rfl
noncomputable def yjz:TypeDesc:=match Tryz.prog.underlying 120 with|some d=>d|none=>.bool
theorem yim (ax:Axs):(EE ax).ti.at 120=some ⟨yjz,1,8,[.nilFunc]⟩:=by kernel_rfl
theorem ykj:aggT yjz=false:=by kernel_rfl
theorem z9t (ax:Axs) (S:TS) (b off N:Nat):zaf (EE ax) S 132 0 (.ptr b off N)=bif S.has b N then some (.ptr b (off+0) N) else none:=by kernel_rfl
theorem z9s (ax:Axs) (S:TS) (b off N:Nat):zaf (EE ax) S 132 1 (.ptr b off N)=bif S.has b N then some (.ptr b (off+1) N) else none:=by kernel_rfl
noncomputable def yjx:Array Field:=match Tryz.prog.underlying 132 with|some (.struct fs)=>fs|_=>#[]
theorem ykc (ax:Axs) (ρ:Operand→T) (parts:List (Nat×Operand)):zkh (EE ax) ρ 132 parts=aggO (zez [.slice none 0 0,.int .i64 0] (zda (zgm (EE ax) yjx) ρ parts)):=by kernel_rfl
theorem z7v (ax:Axs):zgm (EE ax) yjx 0=some (0,1):=by kernel_rfl
theorem yil (ax:Axs):(EE ax).ti.at 156=some ⟨.int .u64,1,8,[.int .u64 0]⟩:=by kernel_rfl
theorem el27 (ax:Axs):zdb (EE ax) 27=some ⟨.struct fs44,23,200,zS44⟩:=by kernel_rfl
theorem el28 (ax:Axs):zdb (EE ax) 28=some ⟨.struct fs44,23,200,zS44⟩:=by kernel_rfl
theorem el42 (ax:Axs):zdb (EE ax) 42=some ⟨.slice 94,1,24,[.slice none 0 0]⟩:=by kernel_rfl
theorem el47 (ax:Axs):zdb (EE ax) 47=some ⟨.int .i64,1,8,[.int .i64 0]⟩:=by kernel_rfl
theorem el52 (ax:Axs):zdb (EE ax) 52=some ⟨.array 10 3,10,80,(zVs 10 .i64)⟩:=by kernel_rfl
theorem el68 (ax:Axs):zdb (EE ax) 68=some ⟨.int .u8,1,1,[.int .u8 0]⟩:=by kernel_rfl
theorem el73 (ax:Axs):zdb (EE ax) 73=some ⟨.struct fs94,21,168,zS94⟩:=by kernel_rfl
theorem el75 (ax:Axs):zdb (EE ax) 75=some ⟨.string,1,16,[.string ⟨#[]⟩]⟩:=by kernel_rfl
end
section
open Go Go.RowKit
set_option maxRecDepth 100000
instance:Inhabited ByteArray:=⟨⟨#[]⟩⟩
theorem zbr {α:Type} {n:Nat} {f:α→T} (h:∀ x,(f x).ids n=true):∀ (l:List α),T.idsL n (l.map f)=true
  |[]=>rfl
  |x :: l=>by simp only [List.map_cons,T.idsL,h,zbr h l,Bool.and_self]
theorem zir {α:Type} {n:Nat} {f:α→T} (h:∀ x,T.idsL n (f x).cells=true):∀ (l:List α),T.idsL n (vecC f l)=true
  |[]=>rfl
  |x :: l=>by
    have:=zir h l;unfold vecC at this ⊢;rw [List.map_cons,List.flatMap_cons,zay,h,this];rfl
def ints (l:List Int):T:=.lst 1 (l.map (T.int .i64))
theorem zpn {n:Nat} (l:List Int):(ints l).ids n=true:=zbr (fun _=>rfl) l
theorem zyf {n:Nat} (l:List Int):T.idsL n (l.map (T.int .i64))=true:=zbr (fun _=>rfl) l
def yhl (l:List (Ar 10)):T:=.lst 10 (l.map (eAr .i64))
theorem zyh {n:Nat} (l:List (Ar 10)):(yhl l).ids n=true:=zbr (fun x=>z3g x) l
theorem zt2 {n:Nat} (l:List (Ar 10)):T.idsL n (l.map (eAr .i64))=true:=zbr (fun x=>z3g x) l
theorem ztw {n:Nat} (l:List (Ar 10)):T.idsL n (vecC (eAr .i64) l)=true:=zir (fun x=>zfq x.l) l
def byts (l:List Int):T:=.lst 1 (l.map (T.int .u8))
theorem zvt {n:Nat} (l:List Int):(byts l).ids n=true:=zbr (fun _=>rfl) l
theorem zyg {n:Nat} (l:List Int):T.idsL n (l.map (T.int .u8))=true:=zbr (fun _=>rfl) l
def strs (l:List ByteArray):T:=.lst 1 (l.map T.str)
theorem z3b {n:Nat} (l:List ByteArray):(strs l).ids n=true:=zbr (fun _=>rfl) l
theorem zyc {n:Nat} (l:List ByteArray):T.idsL n (l.map T.str)=true:=zbr (fun _=>rfl) l
structure Pat where
  mask:Ar 10
  bits:Ar 10
deriving Inhabited,DecidableEq
def ePat (x:Pat):T:=.agg (x.mask.l.map (T.int .i64)++(x.bits.l.map (T.int .i64)))
theorem z85 {n:Nat} (x:Pat):T.idsL n (ePat x).cells=true:=by simp only [ePat,T.cells,T.ids,T.idsL,zay,zfq,Bool.and_self]
theorem zpo {n:Nat} (x:Pat):(ePat x).ids n=true:=by simp only [ePat,T.ids,T.idsL,zay,zfq,Bool.and_self]
theorem zci (x:Pat):(ePat x).cells.length=20:=by simp only [ePat,T.cells,List.length_cons,List.length_nil,zrc,List.length_map,Ar.len]
def zp5 (x:Pat):List Value:=x.mask.l.map (Value.int .i64)++(x.bits.l.map (Value.int .i64))
def z6x:List CK:=List.replicate 10 (CK.int .i64)++(List.replicate 10 (CK.int .i64))
theorem z1t (x:Pat):zfo (x.mask.l.map (T.int .i64)++(x.bits.l.map (T.int .i64)))=some (zp5 x):=(zjp (zmv _) (zmv _))
theorem z3v (x:Pat):zfa z6x (zp5 x)=true:=(z0t _ (z3u _))
theorem ya6 (a b:Pat):a=b↔a.mask=b.mask∧a.bits=b.bits:=by cases a;cases b;simp
theorem yfx (a b:Pat):eqVs (zp5 a) (zp5 b)=decide (a=b):=by
  rw [Bool.eq_iff_iff];simp [zp5,z9y,z0v,eqVs,zrw,and_assoc,ya6]
structure ya8 where
  links:List Int
  node:Int
deriving Inhabited,DecidableEq
def zpu (x:ya8):T:=.agg ([ints x.links,T.int .i64 x.node])
theorem zou {n:Nat} (x:ya8):(zpu x).ids n=true:=by simp only [zpu,T.ids,T.idsL,zay,zfq,zpn,Bool.and_self]
structure Node where
  name:ByteArray
  box:Bool
  rules:Int
  entries:Int
deriving Inhabited,DecidableEq
def zv2 (x:Node):T:=.agg ([T.str x.name,T.bool x.box,T.int .i64 x.rules,T.int .i64 x.entries])
theorem z5c {n:Nat} (x:Node):T.idsL n (zv2 x).cells=true:=by simp only [zv2,T.cells,T.ids,T.idsL,zay,zfq,Bool.and_self]
theorem zm6 {n:Nat} (x:Node):(zv2 x).ids n=true:=by simp only [zv2,T.ids,T.idsL,zay,zfq,Bool.and_self]
structure Link where
  frm:Int
  to:Int
  cap:Int
deriving Inhabited,DecidableEq
def zv3 (x:Link):T:=.agg ([T.int .i64 x.frm,T.int .i64 x.to,T.int .i64 x.cap])
theorem z5d {n:Nat} (x:Link):T.idsL n (zv3 x).cells=true:=by simp only [zv3,T.cells,T.ids,T.idsL,zay,zfq,Bool.and_self]
theorem zm7 {n:Nat} (x:Link):(zv3 x).ids n=true:=by simp only [zv3,T.ids,T.idsL,zay,zfq,Bool.and_self]
structure Edge where
  name:ByteArray
  node:Int
deriving Inhabited,DecidableEq
def zv4 (x:Edge):T:=.agg ([T.str x.name,T.int .i64 x.node])
theorem z5e {n:Nat} (x:Edge):T.idsL n (zv4 x).cells=true:=by simp only [zv4,T.cells,T.ids,T.idsL,zay,zfq,Bool.and_self]
theorem zm8 {n:Nat} (x:Edge):(zv4 x).ids n=true:=by simp only [zv4,T.ids,T.idsL,zay,zfq,Bool.and_self]
def yca (l:List Node):T:=.lst 4 (l.map zv2)
theorem zrj {n:Nat} (l:List Node):(yca l).ids n=true:=zbr (fun x=>zm6 x) l
theorem zty {n:Nat} (l:List Node):T.idsL n (l.map zv2)=true:=zbr (fun x=>zm6 x) l
theorem ztt {n:Nat} (l:List Node):T.idsL n (vecC zv2 l)=true:=zir (fun x=>z5c x) l
def ycb (l:List Link):T:=.lst 3 (l.map zv3)
theorem zrk {n:Nat} (l:List Link):(ycb l).ids n=true:=zbr (fun x=>zm7 x) l
theorem ztz {n:Nat} (l:List Link):T.idsL n (l.map zv3)=true:=zbr (fun x=>zm7 x) l
theorem ztu {n:Nat} (l:List Link):T.idsL n (vecC zv3 l)=true:=zir (fun x=>z5d x) l
def ycc (l:List Edge):T:=.lst 2 (l.map zv4)
theorem zrl {n:Nat} (l:List Edge):(ycc l).ids n=true:=zbr (fun x=>zm8 x) l
theorem zt1 {n:Nat} (l:List Edge):T.idsL n (l.map zv4)=true:=zbr (fun x=>zm8 x) l
theorem ztv {n:Nat} (l:List Edge):T.idsL n (vecC zv4 l)=true:=zir (fun x=>z5e x) l
structure Net where
  nodes:List Node
  links:List Link
  edges:List Edge
deriving Inhabited,DecidableEq
def eNet (x:Net):T:=.agg ([yca x.nodes,ycb x.links,ycc x.edges])
theorem z3f {n:Nat} (x:Net):(eNet x).ids n=true:=by simp only [eNet,T.ids,T.idsL,zay,zfq,zrj,zrk,zrl,Bool.and_self]
structure Alt where
  link:Int
  mod:Pat
deriving Inhabited,DecidableEq
def eAlt (x:Alt):T:=.agg (T.int .i64 x.link :: (x.mod.mask.l.map (T.int .i64)++(x.mod.bits.l.map (T.int .i64))))
theorem z86 {n:Nat} (x:Alt):T.idsL n (eAlt x).cells=true:=by simp only [eAlt,T.cells,T.ids,T.idsL,zay,zfq,Bool.and_self]
theorem zpp {n:Nat} (x:Alt):(eAlt x).ids n=true:=by simp only [eAlt,T.ids,T.idsL,zay,zfq,Bool.and_self]
theorem zbz (x:Alt):(eAlt x).cells.length=21:=by simp only [eAlt,T.cells,List.length_cons,List.length_nil,zrc,List.length_map,Ar.len]
def zp6 (x:Alt):List Value:=Value.int .i64 x.link :: (x.mod.mask.l.map (Value.int .i64)++(x.mod.bits.l.map (Value.int .i64)))
def z6y:List CK:=CK.int .i64 :: (List.replicate 10 (CK.int .i64)++(List.replicate 10 (CK.int .i64)))
theorem z1u (x:Alt):zfo (T.int .i64 x.link :: (x.mod.mask.l.map (T.int .i64)++(x.mod.bits.l.map (T.int .i64))))=some (zp6 x):=(zz0 rfl (zjp (zmv _) (zmv _)))
theorem z3w (x:Alt):zfa z6y (zp6 x)=true:=(z9n (yj6 _ _) (z0t _ (z3u _)))
theorem yif (a b:Alt):a=b↔a.link=b.link∧a.mod=b.mod:=by cases a;cases b;simp
theorem yfy (a b:Alt):eqVs (zp6 a) (zp6 b)=decide (a=b):=by
  rw [Bool.eq_iff_iff];simp [zp6,z9y,z0v,eqVs,zrw,and_assoc,ya6,yif]
def lAlt (l:List Alt):T:=.lst 21 (l.map eAlt)
theorem zpm {n:Nat} (l:List Alt):(lAlt l).ids n=true:=zbr (fun x=>zpp x) l
theorem zye {n:Nat} (l:List Alt):T.idsL n (l.map eAlt)=true:=zbr (fun x=>zpp x) l
theorem zyb {n:Nat} (l:List Alt):T.idsL n (vecC eAlt l)=true:=zir (fun x=>z86 x) l
def zaj (l:List (List Alt)):T:=.lst 1 (l.map lAlt)
theorem zm4 {n:Nat} (l:List (List Alt)):(zaj l).ids n=true:=zbr (fun x=>zpm x) l
theorem zt0 {n:Nat} (l:List (List Alt)):T.idsL n (l.map lAlt)=true:=zbr (fun x=>zpm x) l
theorem zy9 (x:List Alt):(lAlt x).cells=[lAlt x]:=Eq.trans rfl rfl
theorem zxr (x:List Alt):T.one (lAlt x)=true:=Eq.trans rfl rfl
structure Rule where
  prio:Int
  mat:Pat
  step:Int
  outs:List (List Alt)
deriving Inhabited,DecidableEq
def zb6 (x:Rule):T:=.agg (T.int .i64 x.prio :: (x.mat.mask.l.map (T.int .i64)++(x.mat.bits.l.map (T.int .i64)++[T.int .i64 x.step,zaj x.outs])))
theorem z5b {n:Nat} (x:Rule):T.idsL n (zb6 x).cells=true:=by simp only [zb6,T.cells,T.ids,T.idsL,zay,zfq,zm4,Bool.and_self]
theorem zm5 {n:Nat} (x:Rule):(zb6 x).ids n=true:=by simp only [zb6,T.ids,T.idsL,zay,zfq,zm4,Bool.and_self]
theorem zbe (x:Rule):(zb6 x).cells.length=23:=by simp only [zb6,T.cells,List.length_cons,List.length_nil,zrc,List.length_map,Ar.len]
structure Src where
  b:List Int
  e:Int
deriving Inhabited,DecidableEq
def eSrc (x:Src):T:=.agg ([byts x.b,T.int .i64 x.e])
theorem z3e {n:Nat} (x:Src):(eSrc x).ids n=true:=by simp only [eSrc,T.ids,T.idsL,zay,zfq,zvt,Bool.and_self]
def zat (l:List Rule):T:=.lst 23 (l.map zb6)
theorem zm3 {n:Nat} (l:List Rule):(zat l).ids n=true:=zbr (fun x=>zm5 x) l
theorem ztx {n:Nat} (l:List Rule):T.idsL n (l.map zb6)=true:=zbr (fun x=>zm5 x) l
theorem zts {n:Nat} (l:List Rule):T.idsL n (vecC zb6 l)=true:=zir (fun x=>z5b x) l
def z8o (l:List (List Rule)):T:=.lst 1 (l.map zat)
theorem zt3 {n:Nat} (l:List (List Rule)):(z8o l).ids n=true:=zbr (fun x=>zm3 x) l
theorem zri {n:Nat} (l:List (List Rule)):T.idsL n (l.map zat)=true:=zbr (fun x=>zm3 x) l
theorem zuj (x:List Rule):(zat x).cells=[zat x]:=Eq.trans rfl rfl
theorem ztd (x:List Rule):T.one (zat x)=true:=Eq.trans rfl rfl
def lPat (l:List Pat):T:=.lst 20 (l.map ePat)
theorem z3d {n:Nat} (l:List Pat):(lPat l).ids n=true:=zbr (fun x=>zpo x) l
theorem zyd {n:Nat} (l:List Pat):T.idsL n (l.map ePat)=true:=zbr (fun x=>zpo x) l
theorem zya {n:Nat} (l:List Pat):T.idsL n (vecC ePat l)=true:=zir (fun x=>z85 x) l
theorem aq41 (ax:Axs) (a b:Pat):(∀ (S:TS) (x y:Operand),tBin Tryz.prog (EE ax) S 41 .eql x y (.agg (a.mask.l.map (T.int .i64)++(a.bits.l.map (T.int .i64)))) (.agg (b.mask.l.map (T.int .i64)++(b.bits.l.map (T.int .i64))))=some (.bool (decide (a=b))))∧(∀ (S:TS) (x y:Operand),tBin Tryz.prog (EE ax) S 41 .neq x y (.agg (a.mask.l.map (T.int .i64)++(a.bits.l.map (T.int .i64)))) (.agg (b.mask.l.map (T.int .i64)++(b.bits.l.map (T.int .i64))))=some (.bool (!(decide (a=b))))):=⟨fun _ _ _=>(zu1 (sh:=z6x) (by kernel_rfl) (by kernel_rfl) (z1t a) (z1t b) (z3v a) (z3v b) (yfx a b)).1,fun _ _ _=>(zu1 (sh:=z6x) (by kernel_rfl) (by kernel_rfl) (z1t a) (z1t b) (z3v a) (z3v b) (yfx a b)).2⟩
theorem aq94 (ax:Axs) (a b:Alt):(∀ (S:TS) (x y:Operand),tBin Tryz.prog (EE ax) S 94 .eql x y (.agg (T.int .i64 a.link :: (a.mod.mask.l.map (T.int .i64)++(a.mod.bits.l.map (T.int .i64))))) (.agg (T.int .i64 b.link :: (b.mod.mask.l.map (T.int .i64)++(b.mod.bits.l.map (T.int .i64)))))=some (.bool (decide (a=b))))∧(∀ (S:TS) (x y:Operand),tBin Tryz.prog (EE ax) S 94 .neq x y (.agg (T.int .i64 a.link :: (a.mod.mask.l.map (T.int .i64)++(a.mod.bits.l.map (T.int .i64))))) (.agg (T.int .i64 b.link :: (b.mod.mask.l.map (T.int .i64)++(b.mod.bits.l.map (T.int .i64)))))=some (.bool (!(decide (a=b))))):=⟨fun _ _ _=>(zu1 (sh:=z6y) (by kernel_rfl) (by kernel_rfl) (z1u a) (z1u b) (z3w a) (z3w b) (yfy a b)).1,fun _ _ _=>(zu1 (sh:=z6y) (by kernel_rfl) (by kernel_rfl) (z1u a) (z1u b) (z3w a) (z3w b) (yfy a b)).2⟩
theorem eqA:type_of% (And.intro (And.intro (And.intro (And.intro (@ints.eq_1) (And.intro (@yhl.eq_1) (@byts.eq_1))) (And.intro (@strs.eq_1) (And.intro (@ePat.eq_1) (@zpu.eq_1)))) (And.intro (And.intro (@zv2.eq_1) (And.intro (@zv3.eq_1) (@zv4.eq_1))) (And.intro (@yca.eq_1) (And.intro (@ycb.eq_1) (@ycc.eq_1))))) (And.intro (And.intro (And.intro (@eNet.eq_1) (And.intro (@eAlt.eq_1) (@lAlt.eq_1))) (And.intro (@zaj.eq_1) (And.intro (@zy9) (@zxr)))) (And.intro (And.intro (@zb6.eq_1) (And.intro (@eSrc.eq_1) (@zat.eq_1))) (And.intro (@z8o.eq_1) (And.intro (@zuj) (@ztd)))))):=And.intro (And.intro (And.intro (And.intro (@ints.eq_1) (And.intro (@yhl.eq_1) (@byts.eq_1))) (And.intro (@strs.eq_1) (And.intro (@ePat.eq_1) (@zpu.eq_1)))) (And.intro (And.intro (@zv2.eq_1) (And.intro (@zv3.eq_1) (@zv4.eq_1))) (And.intro (@yca.eq_1) (And.intro (@ycb.eq_1) (@ycc.eq_1))))) (And.intro (And.intro (And.intro (@eNet.eq_1) (And.intro (@eAlt.eq_1) (@lAlt.eq_1))) (And.intro (@zaj.eq_1) (And.intro (@zy9) (@zxr)))) (And.intro (And.intro (@zb6.eq_1) (And.intro (@eSrc.eq_1) (@zat.eq_1))) (And.intro (@z8o.eq_1) (And.intro (@zuj) (@ztd)))))
theorem eqB:type_of% (And.intro (And.intro (And.intro (@lPat.eq_1) (@ydk)) (And.intro (@z1i) (@ydj))) (And.intro (And.intro (@z1h) (@ydi)) (And.intro (@z1g) (And.intro (@ydh) (@z1f))))):=And.intro (And.intro (And.intro (@lPat.eq_1) (@ydk)) (And.intro (@z1i) (@ydj))) (And.intro (And.intro (@z1h) (@ydi)) (And.intro (@z1g) (And.intro (@ydh) (@z1f))))
theorem eqsA:type_of% (And.intro (And.intro (And.intro (And.intro (@z60) (And.intro (@sgT) (@sgT1))) (And.intro (@sgD) (And.intro (@sgD1) (@sgG)))) (And.intro (And.intro (@splA) (And.intro (@yiu) (@yit))) (And.intro (@splS) (And.intro (@ya1) (@zzl))))) (And.intro (And.intro (And.intro (@zrc) (And.intro (@ya3) (@zwr))) (And.intro (@zyv) (And.intro (@yeo) (@yjp)))) (And.intro (And.intro (@yen) (And.intro (@z8v) (@z92))) (And.intro (@yig) (And.intro (@Ar.len) (@zv5)))))):=And.intro (And.intro (And.intro (And.intro (@z60) (And.intro (@sgT) (@sgT1))) (And.intro (@sgD) (And.intro (@sgD1) (@sgG)))) (And.intro (And.intro (@splA) (And.intro (@yiu) (@yit))) (And.intro (@splS) (And.intro (@ya1) (@zzl))))) (And.intro (And.intro (And.intro (@zrc) (And.intro (@ya3) (@zwr))) (And.intro (@zyv) (And.intro (@yeo) (@yjp)))) (And.intro (And.intro (@yen) (And.intro (@z8v) (@z92))) (And.intro (@yig) (And.intro (@Ar.len) (@zv5)))))
theorem eqsB:type_of% (And.intro (And.intro (And.intro (@zzf) (@zwi)) (And.intro (@yf9) (@sub0))) (And.intro (And.intro (@z1n) (@zwd)) (And.intro (@z6d) (And.intro (@ygb) (@ya4))))):=And.intro (And.intro (And.intro (@zzf) (@zwi)) (And.intro (@yf9) (@sub0))) (And.intro (And.intro (@z1n) (@zwd)) (And.intro (@z6d) (And.intro (@ygb) (@ya4))))
theorem idsA:type_of% (And.intro (And.intro (And.intro (And.intro (@zpn) (And.intro (@zyf) (@zyh))) (And.intro (@zt2) (And.intro (@ztw) (@zvt)))) (And.intro (And.intro (@zyg) (And.intro (@z3b) (@zyc))) (And.intro (@zpo) (And.intro (@zou) (@zm6))))) (And.intro (And.intro (And.intro (@zm7) (And.intro (@zm8) (@zrj))) (And.intro (@zty) (And.intro (@ztt) (@zrk)))) (And.intro (And.intro (@ztz) (And.intro (@ztu) (@zrl))) (And.intro (@zt1) (And.intro (@ztv) (@z3f)))))):=And.intro (And.intro (And.intro (And.intro (@zpn) (And.intro (@zyf) (@zyh))) (And.intro (@zt2) (And.intro (@ztw) (@zvt)))) (And.intro (And.intro (@zyg) (And.intro (@z3b) (@zyc))) (And.intro (@zpo) (And.intro (@zou) (@zm6))))) (And.intro (And.intro (And.intro (@zm7) (And.intro (@zm8) (@zrj))) (And.intro (@zty) (And.intro (@ztt) (@zrk)))) (And.intro (And.intro (@ztz) (And.intro (@ztu) (@zrl))) (And.intro (@zt1) (And.intro (@ztv) (@z3f)))))
theorem idsB:type_of% (And.intro (And.intro (And.intro (And.intro (@zpp) (@zpm)) (And.intro (@zye) (And.intro (@zyb) (@zm4)))) (And.intro (And.intro (@zt0) (@zm5)) (And.intro (@z3e) (And.intro (@zm3) (@ztx))))) (And.intro (And.intro (And.intro (@zts) (@zt3)) (And.intro (@zri) (And.intro (@z3d) (@zyd)))) (And.intro (And.intro (@zya) (@z3g)) (And.intro (@zfq) (And.intro (@z87) (@zay)))))):=And.intro (And.intro (And.intro (And.intro (@zpp) (@zpm)) (And.intro (@zye) (And.intro (@zyb) (@zm4)))) (And.intro (And.intro (@zt0) (@zm5)) (And.intro (@z3e) (And.intro (@zm3) (@ztx))))) (And.intro (And.intro (And.intro (@zts) (@zt3)) (And.intro (@zri) (And.intro (@z3d) (@zyd)))) (And.intro (And.intro (@zya) (@z3g)) (And.intro (@zfq) (And.intro (@z87) (@zay)))))
structure zb7 (ax:Axs):Prop where
  no:∀ f,Nat.beq f 12=false→ax f=none
  san:Pure Tryz.prog (EE ax) [] 12 [] (.bool true)
theorem Pure.clr {P:Program} {Γ:Env} {GL:List (Nat×List Value)} {f:FuncId} {args:List T} {v v2:T} {S:TS} (k:Pure P Γ GL f args v) (e:v=v2):zau P Γ GL f args S v2:=e ▸ k.call S
end
section
open Go Go.RowKit
mutual
inductive Rt (W:World):T→Value→Prop
  |int (k n):Rt W (.int k n) (.int k n)
  |bool (b):Rt W (.bool b) (.bool b)
  |str (b):Rt W (.str b) (.string b)
  |agg {l cs}:RtL W l cs→Rt W (.agg l) (.agg ⟨cs⟩)
  |nil {e}:Rt W (.lst e []) (.slice none 0 0)
  |zero {e a}:0<e→0<W.heap.size→Rt W (.lst e []) (.slice (some a) 0 0)
  |lst {e l b off cap cs}:RtL W (l.flatMap T.cells) cs→(∀ t,t∈l→t.cells.length=e)→0<e→l.length≤cap→cap≤maxLen→(W.cell? ⟨b,off,none⟩).isSome=true→(∀ (j:Nat) u,cs[j]?=some u→W.cell? ⟨b,off+j,none⟩=some u)→Rt W (.lst e l) (.slice (some ⟨b,off,none⟩) l.length cap)
inductive RtL (W:World):List T→List Value→Prop
  |nil:RtL W [] []
  |cons {t v l vs}:Rt W t v→RtL W l vs→RtL W (t :: l) (v :: vs)
end
section
variable {W:World} {N:Nat} {G:List Nat} {K:List (Nat×List Value)}
theorem RtL.len:∀ {l:List T} {vs:List Value},RtL W l vs→l.length=vs.length
  |_,_,.nil=>rfl
  |_,_,.cons _ h=>by rw [List.length_cons,List.length_cons,h.len]
theorem z06 {b j k:Nat} (h:(W.cell? ⟨b,k,none⟩).isSome=true) (hj:j≤k):(W.cell? ⟨b,j,none⟩).isSome=true:=by
  unfold World.cell? at h ⊢;simp only at h ⊢;split at h
  · rename_i c _ _ hb;simp only [Option.isSome_none,Bool.false_eq_true,if_false] at h ⊢
    have:k<c.size:=by
      by_cases hk:k<c.size
      · exact hk
      · rw [Array.getElem?_eq_none (by omega)] at h;simp at h
    rw [Array.getElem?_eq_getElem (by omega)];rfl
  · simp at h
theorem yc5 {b k:Nat} (h:(W.cell? ⟨b,k,none⟩).isSome=true):b<W.heap.size:=by
  unfold World.cell? at h;simp only at h;by_cases hb:b<W.heap.size
  · exact hb
  · rw [Array.getElem?_eq_none (by omega)] at h;simp at h
theorem zqs {u:Nat} {m:List (Nat×List Value)}:∀ {l:List (Nat×List Value)},(∀ p,p∈l→p.1≠u)→zbx (l++m) u=zbx m u
  |[],_=>rfl
  |p :: l,h=>by
    show (bif Nat.beq p.1 u then some p.2 else zbx (l++m) u)=_;rw [zka (h p (by simp)),cond_false];exact zqs fun q hq=>h q (by simp [hq])
theorem zqg {f:Nat} {q:Seg}:∀ {F:List Seg} {i j:Nat},F[i]?=some q→q.b=f→zbx (zi0 N f j F) ((N+(j+i))*1024)=some q.cs
  |[],i,j,h,_=>by simp at h
  |p :: F,0,j,h,hb=>by
    simp only [List.getElem?_cons_zero,Option.some.injEq] at h;subst h;unfold zi0;rw [if_pos hb]
    simp [zbx,Nat.beq_refl]
  |p :: F,i+1,j,h,hb=>by
    have ih:=zqg (F:=F) (i:=i) (j:=j+1) (by simpa using h) hb;rw [show j+1+i=j+(i+1) by omega] at ih;unfold zi0;split
    · unfold zbx
      have:Nat.beq ((N+j)*1024) ((N+(j+(i+1)))*1024)=false:=by
        cases hq:Nat.beq ((N+j)*1024) ((N+(j+(i+1)))*1024) with
        |false=>rfl
        |true=>have:=Nat.eq_of_beq_eq_true hq;omega
      rw [this];exact ih
    · exact ih
def Low (N:Nat):Nat→Prop:=fun f=>f<N
structure En (W:World) (N:Nat) (G:List Nat) (K:List (Nat×List Value)) (pre A:List Seg) (l:List T) (xs vs:List Value):Prop where
  vr:∀ post,RL (VR (sgS N G K (pre++A++post))) xs vs
  vl:∀ post,VL (Low N) bx0 (famS N K (pre++A++post)) l xs
  at_:∀ post q,q∈A→ykl (sgS N G K (pre++A++post)) W q
theorem yiv (hK:∀ p,p∈K→has G p.1=true) (hG:∀ g,has G g=true→g<N) {F:List Seg} {i:Nat} {q:Seg} (hq:F[i]?=some q) (hb:q.b<N) :
    sgS N G K F q.b ((N+i)*1024)=some (q.b,q.o,q.o+q.cs.length)∧zbx (famS N K F q.b).rows ((N+i)*1024)=some q.cs:=by
  constructor
  · unfold sgS;rw [if_neg (by rintro ⟨_,h⟩;omega),if_pos (by omega)];have e:(N+i)*1024 / 1024 - N=i:=by omega
    rw [e,hq];show (if q.b=q.b then _ else _)=_;rw [if_pos rfl]
  · show zbx ((famK K q.b).rows++zi0 N q.b 0 F) _=_;rw [zqs fun p hp=>?_]
    · have:=zqg (N:=N) (j:=0) hq rfl
      rwa [Nat.zero_add] at this
    · obtain ⟨h1,h2,_⟩:=zru hp;have:=hG _ (hK _ h2);rw [h1];simp only at this;omega
theorem z83 {α:Type} (pre A post:List α) (q:α):(pre++(A++[q])++post)[pre.length+A.length]?=some q:=by
  rw [List.append_assoc,List.append_assoc,List.getElem?_append_right (by omega),List.getElem?_append_right (by omega)];simp
mutual
theorem ent (hN:N=W.heap.size) (hK:∀ p,p∈K→has G p.1=true) (hG:∀ g,has G g=true→g<N):∀ {t:T} {v:Value},Rt W t v→∀ pre,∃ A x,En W N G K pre A [t] [x] [v]
  |_,_,.int k n,pre=>⟨[],.int k n,⟨fun _=>⟨zg5 3 rfl,trivial⟩,fun _=>.cons (.int k n) .nil,fun _ q hq=>by simp at hq⟩⟩
  |_,_,.bool b,pre=>⟨[],.bool b,⟨fun _=>⟨zg5 3 rfl,trivial⟩,fun _=>.cons (.bool b) .nil,fun _ q hq=>by simp at hq⟩⟩
  |_,_,.str b,pre=>⟨[],.string b,⟨fun _=>⟨zg5 3 rfl,trivial⟩,fun _=>.cons (.str b) .nil,fun _ q hq=>by simp at hq⟩⟩
  |_,_,.agg h,pre=>by
    obtain ⟨A,xs,k⟩:=entL hN hK hG h pre;exact ⟨A,.agg ⟨xs⟩,fun post=>⟨VR.mk ⟨_,rfl,k.vr post⟩,trivial⟩,fun post=>.cons (.agg (k.vl post)) .nil,k.at_⟩
  |_,_,.nil,pre=>⟨[],.slice none 0 0,⟨fun _=>⟨VR.mk ⟨rfl,rfl,rfl⟩,trivial⟩,fun _=>.cons .lnil .nil,fun _ q hq=>by simp at hq⟩⟩
  |.lst e _,.slice _ _ _,@Rt.zero _ _ a he hs,pre=>by
    have hi:=fun post=>z83 pre [] post (⟨0,0,[]⟩:Seg);have h0:∀ post,_:=fun post=>yiv (q:=(⟨0,0,[]⟩:Seg)) hK hG (hi post) (by show 0<N;omega);refine ⟨[⟨0,0,[]⟩],.slice (some (mkA 0 ((N+(pre.length+0))*1024) 0)) 0 0,⟨fun post=>⟨VR.mk ⟨0,0,_,(h0 post).1,a,0,rfl,Nat.le_refl _,Nat.le_refl _,Nat.zero_le _,fun h=>absurd rfl h,fun _=>rfl,fun _ h=>absurd rfl h⟩,trivial⟩,fun post=>.cons ?_ .nil,fun post q hq=>?_⟩⟩
    · exact .lst (l:=[]) (cs:=[]) (show (0:Nat)<N by omega) (h0 post).2 .nil (fun t ht=>by simp at ht) he rfl (.inl (by omega)) (Nat.le_refl _)
    · simp only [List.mem_singleton] at hq;subst hq;exact ⟨hs,fun j hj=>by simp at hj,fun j u hu=>by simp at hu⟩
  |.lst e l,.slice _ _ cap,@Rt.lst _ _ _ b off _ cs h hs he hl hm hc hcell,pre=>by
    obtain ⟨A,xs,k⟩:=entL hN hK hG h pre;have hxl:xs.length=cs.length:=(k.vr []).length;have hb:b<W.heap.size:=yc5 hc;have hi:=fun post=>z83 pre A post (⟨b,off,xs⟩:Seg);have h0:=fun post=>yiv (q:=(⟨b,off,xs⟩:Seg)) hK hG (hi post) (by show b<N;omega);have hF:∀ post,pre++(A++[⟨b,off,xs⟩])++post=pre++A++((⟨b,off,xs⟩:Seg) :: post):=fun post=>by simp
    refine ⟨A++[⟨b,off,xs⟩],.slice (some (mkA b ((N+(pre.length+A.length))*1024) 0)) l.length cap,⟨fun post=>⟨VR.mk ⟨b,off,_,(h0 post).1,⟨b,off,none⟩,cap,rfl,hl,Nat.le_refl _,hm,fun _=>rfl,fun _=>rfl,fun ht=>?_⟩,trivial⟩,fun post=>.cons ?_ .nil,fun post q hq=>?_⟩⟩
    · rw [zib] at ht;omega
    · refine .lst (cs:=xs) (show b<N by omega) (h0 post).2 ?_ hs he (by rw [List.drop_zero,List.take_length]) (.inl (by omega)) hl;rw [hF];exact k.vl _
    · rcases List.mem_append.1 hq with hq|hq
      · rw [hF];exact k.at_ _ q hq
      · simp only [List.mem_singleton] at hq;subst hq;refine ⟨hb,fun j hj=>?_,fun j u hu=>?_⟩
        · have hj:j<off+xs.length:=hj;by_cases h1:j≤off
          · exact z06 hc h1
          · have hjc:j - off<cs.length:=by omega
            have:=hcell (j - off) _ (List.getElem?_eq_getElem hjc);rw [show off+(j - off)=j by omega] at this;rw [this];rfl
        · have hju:j<xs.length:=(List.getElem?_eq_some_iff.1 hu).1;have hu:xs[j]?=some u:=hu;have hcs:=List.getElem?_eq_getElem (l:=cs) (i:=j) (by omega);refine ⟨_,hcell j _ hcs,?_⟩;rw [hF];obtain ⟨y,hy1,hy2⟩:=(k.vr (⟨b,off,xs⟩ :: post)).at hu;rw [hcs] at hy1;cases hy1;exact hy2
theorem entL (hN:N=W.heap.size) (hK:∀ p,p∈K→has G p.1=true) (hG:∀ g,has G g=true→g<N):∀ {l:List T} {vs:List Value},RtL W l vs→∀ pre,∃ A xs,En W N G K pre A l xs vs
  |_,_,.nil,pre=>⟨[],[],⟨fun _=>trivial,fun _=>.nil,fun _ q hq=>by simp at hq⟩⟩
  |_,_,.cons h1 h2,pre=>by
    obtain ⟨A1,x,k1⟩:=ent hN hK hG h1 pre;obtain ⟨A2,xs,k2⟩:=entL hN hK hG h2 (pre++A1);have e1:∀ post,pre++(A1++A2)++post=pre++A1++(A2++post):=fun post=>by simp
    have e2:∀ post,pre++(A1++A2)++post=pre++A1++A2++post:=fun post=>by simp
    refine ⟨A1++A2,x :: xs,⟨fun post=>⟨?_,?_⟩,fun post=>?_,fun post q hq=>?_⟩⟩
    · rw [e1];exact (k1.vr _).1
    · rw [e2];exact k2.vr _
    · have a:=k1.vl (A2++post);have b:=k2.vl post;rw [← e1] at a;rw [← e2] at b
      cases a with
      |cons a _=>exact .cons a b
    · rcases List.mem_append.1 hq with hq|hq
      · rw [e1];exact k1.at_ _ q hq
      · rw [e2];exact k2.at_ _ q hq
end
end
end
section
open Go Go.RowKit
inductive Sh where
  |int (k:IntKind)
  |bool
  |str
  |slice (e:Sh)
  |struct (l:List Sh)
  |arr (k:IntKind) (n:Nat)
mutual
def Sh.sz:Sh→Nat
  |.struct l=>Sh.szL l
  |.arr _ n=>n
  |_=>1
def Sh.szL:List Sh→Nat
  |[]=>0
  |s :: l=>s.sz+Sh.szL l
end
mutual
def shOk (P:Program):Sh→TypeId→Bool
  |.int k,t=>match P.underlying t with|some (.int k')=>decide (k=k')|_=>false
  |.bool,t=>match P.underlying t with|some .bool=>true|_=>false
  |.str,t=>match P.underlying t with|some .string=>true|_=>false
  |.slice s,t=>match P.underlying t with|some (.slice e)=>Nat.beq (P.cellsOf e) s.sz && (Nat.blt 0 s.sz && shOk P s e)|_=>false
  |.struct l,t=>match P.underlying t with|some (.struct fs)=>Nat.beq (P.cellsOf t) (Sh.szL l) && z4x P l fs.toList 0|_=>false
  |.arr k n,t=>match P.underlying t with|some (.array m e)=>Nat.beq m n && (Nat.beq (P.cellsOf t) n && (Nat.beq (P.cellsOf e) 1 && (match P.underlying e with|some (.int k')=>decide (k=k')|_=>false)))|_=>false
def z4x (P:Program):List Sh→List Field→Nat→Bool
  |[],[],_=>true
  |s :: l,f :: fs,o=>Nat.beq f.offset o && (Nat.beq (P.cellsOf f.type) s.sz && (shOk P s f.type && z4x P l fs (o+s.sz)))
  |_,_,_=>false
end
mutual
def conf:Sh→T→Prop
  |.int k,t=>∃ n,t=.int k n∧(Lit.int k n).wf=true
  |.bool,t=>∃ b,t=.bool b
  |.str,t=>∃ s,t=.str s∧s.size≤maxLen
  |.slice e,t=>∃ l,t=.lst e.sz l∧l.length≤maxLen∧∀ x,x∈l→conf e x
  |.struct l,t=>∃ cs,t=.agg cs∧yh1 l cs
  |.arr k n,t=>∃ a:Ar n,t=.agg (a.l.map (T.int k))∧∀ x,x∈a.l→(Lit.int k x).wf=true
def yh1:List Sh→List T→Prop
  |[],cs=>cs=[]
  |s :: l,cs=>∃ x r,cs=x.cells++r∧conf s x∧yh1 l r
end
theorem yao {α:Type} {p:Nat→α→Prop}:∀ n,(∀ i,i<n→∃ x,p i x)→∃ l:List α,l.length=n∧∀ i (hi:i<l.length),p i l[i]:=by
  intro n
  induction n with
  |zero=>intro _;exact ⟨[],rfl,fun i hi=>by simp at hi⟩
  |succ n ih =>
    intro h;obtain ⟨l,hl,hp⟩:=ih (fun i hi=>h i (by omega));obtain ⟨x,hx⟩:=h n (by omega);refine ⟨l++[x],by simp [hl],fun i hi=>?_⟩;by_cases hin:i<l.length
    · rw [List.getElem_append_left hin];exact hp i hin
    · have:i=l.length:=by simp at hi;omega
      subst this;rw [List.getElem_append_right (Nat.le_refl _)];simpa [hl] using hx
section
variable {H:Type} {enc:TypeId×Value→H} {P:Program} {W:World}
theorem RtL.append:∀ {l l2:List T} {vs vs2:List Value},RtL W l vs→RtL W l2 vs2→RtL W (l++l2) (vs++vs2)
  |_,_,_,_,.nil,k=>k
  |_,_,_,_,.cons h k,k2=>.cons h (k.append k2)
theorem RtL.flat:∀ {l:List (T×List Value)},(∀ p,p∈l→RtL W p.1.cells p.2)→RtL W ((l.map (·.1)).flatMap T.cells) (l.map (·.2)).flatten
  |[],_=>.nil
  |p :: l,h=>by
    rw [List.map_cons,List.flatMap_cons,List.map_cons,List.flatten_cons];exact (h p (by simp)).append (RtL.flat fun q hq=>h q (by simp [hq]))
theorem zt8 {b k:Nat}:∀ {l:List (List Value)} {o:Nat},(∀ c,c∈l→c.length=k)→(∀ (i:Nat) c,l[i]?=some c→∀ j,j<k→W.cell? ⟨b,o+i*k+j,none⟩=c[j]?)→∀ (j:Nat) u,l.flatten[j]?=some u→W.cell? ⟨b,o+j,none⟩=some u
  |[],o,_,_,j,u,h=>by simp at h
  |c :: l,o,hl,hc,j,u,h=>by
    have hck:=hl c (by simp);rw [List.flatten_cons] at h;by_cases hj:j<c.length
    · rw [List.getElem?_append_left hj] at h;have:=hc 0 c rfl j (by omega);rw [Nat.zero_mul,Nat.add_zero] at this;rw [this,h]
    · rw [List.getElem?_append_right (by omega)] at h
      have:=zt8 (o:=o+k) (fun c hc=>hl c (by simp [hc])) (fun i c' hi j hj=>by
        have:=hc (i+1) c' (by simpa using hi) j hj;rw [show o+(i+1)*k+j=o+k+i*k+j by rw [Nat.add_mul];omega] at this
        exact this) (j - c.length) u h
      rw [show o+k+(j - c.length)=o+j by omega] at this;exact this
def zsa (W:World) (cs:List Value):Prop:=∀ v,v∈cs→(∃ a n c,v=.slice (some a) n c)→0<W.heap.size
theorem zsa.of (h:0<W.heap.size) (cs:List Value):zsa W cs:=fun _ _ _=>h
theorem zsa.sub {cs cs':List Value} (h:zsa W cs) (hs:∀ v,v∈cs'→v∈cs):zsa W cs':=fun v hv=>h v (hs v hv)
theorem z4w {s:Sh} {e t:TypeId} {fuel:Nat} {cs:List Value} {x:DataW H×List MemPlace} (ht:P.underlying t=some (.slice e)) (hsz:P.cellsOf e=s.sz) (hpos:0<s.sz)
    (ih:∀ {fuel:Nat} {cs:List Value} {x:DataW H×List MemPlace},DataW.trod enc P W 0 (fun _=>true) true fuel e cs=some x→zsa W cs→∃ tr,conf s tr∧RtL W tr.cells cs)
    (h:DataW.trod enc P W 0 (fun _=>true) true fuel t cs=some x) (hz:zsa W cs):∃ tr,conf (.slice s) tr∧RtL W tr.cells cs:=by
  rcases Go.Deep.open_slice ht h with ⟨rfl,_⟩|⟨a,len,cap,m,n,D,Pl,rfl,hb,hl,hm,hmm,_,hall⟩
  · exact ⟨.lst s.sz [],⟨[],rfl,Nat.zero_le _,fun x hx=>by simp at hx⟩,.cons .nil .nil⟩
  · have hh:0<W.heap.size:=hz (.slice (some a) len cap) (by simp) ⟨_,_,_,rfl⟩;simp only [if_true] at hmm;subst hmm;rw [hsz] at hall;by_cases h0:m=0
    · subst h0;have:len=0:=by omega
      subst this;exact ⟨.lst s.sz [],⟨[],rfl,Nat.zero_le _,fun x hx=>by simp at hx⟩,.cons (.zero hpos hh) .nil⟩
    obtain ⟨cs0,hc0,_⟩:=hall 0 (by omega);obtain ⟨_,hl0,hcc0⟩:=World.cells?_some hc0
    have hcell0:((W.cell? ((a.add (0*s.sz)).add 0))).isSome=true:=by
      rw [hcc0 0 hpos,List.getElem?_eq_getElem (by omega)];rfl
    obtain ⟨b,off,spot⟩:=a
    have hspot:spot=none:=by
      cases hq:W.cell? (((⟨b,off,spot⟩:Addr).add (0*s.sz)).add 0) with
      |none=>rw [hq] at hcell0;simp at hcell0
      |some u=>simpa [Addr.add] using World.cell?_spot hq
    subst hspot;simp only [Addr.add_lit,Nat.zero_mul,Nat.add_zero] at hcell0
    obtain ⟨l,hll,hp⟩:=yao (p:=fun i (p:T×List Value)=>conf s p.1∧RtL W p.1.cells p.2∧p.2.length=s.sz∧∀ j,j<s.sz→W.cell? ⟨b,off+i*s.sz+j,none⟩=p.2[j]?) len (fun i hi=>by
      obtain ⟨cs',h1,h2⟩:=hall i (by omega);obtain ⟨tr,k1,k2⟩:=ih h2 (zsa.of hh _);obtain ⟨-,hcl,hcc⟩:=World.cells?_some h1
      exact ⟨(tr,cs'),k1,k2,hcl,fun j hj=>by have:=hcc j hj;rw [Addr.add_lit,Addr.add_lit] at this;exact this⟩)
    have hmem:∀ p,p∈l→∃ i,i<l.length∧l[i]?=some p∧conf s p.1∧RtL W p.1.cells p.2∧p.2.length=s.sz:=fun p hp'=>by
      obtain ⟨i,hi,rfl⟩:=List.getElem_of_mem hp';exact ⟨i,hi,List.getElem?_eq_getElem hi,(hp i hi).1,(hp i hi).2.1,(hp i hi).2.2.1⟩
    refine ⟨.lst s.sz (l.map (·.1)),⟨_,rfl,by rw [List.length_map];omega,fun x hx=>?_⟩,.cons ?_ .nil⟩
    · obtain ⟨p,hp1,rfl⟩:=List.mem_map.1 hx;obtain ⟨_,_,_,k,_⟩:=hmem p hp1;exact k
    · have:=Rt.lst (W:=W) (e:=s.sz) (l:=l.map (·.1)) (b:=b) (off:=off) (cap:=m) (cs:=(l.map (·.2)).flatten) (RtL.flat fun p hp1=>by obtain ⟨_,_,_,_,k,_⟩:=hmem p hp1;exact k) (fun t ht'=>?_) hpos (by rw [List.length_map];omega) hm hcell0 ?_
      · rw [List.length_map,hll] at this;exact this
      · obtain ⟨p,hp1,rfl⟩:=List.mem_map.1 ht';obtain ⟨_,_,_,_,k,k2⟩:=hmem p hp1;rw [k.len,k2]
      · refine zt8 (k:=s.sz) (fun c hc=>?_) (fun i c hi=>?_)
        · obtain ⟨p,hp1,rfl⟩:=List.mem_map.1 hc;obtain ⟨_,_,_,_,_,k2⟩:=hmem p hp1;exact k2
        · rw [List.getElem?_map] at hi
          cases hq:l[i]? with
          |none=>rw [hq] at hi;simp at hi
          |some p =>
            rw [hq] at hi;simp only [Option.map_some,Option.some.injEq] at hi;subst hi;have hil:=(List.getElem?_eq_some_iff.1 hq).1;have:l[i]=p:=(List.getElem?_eq_some_iff.1 hq).2;have:=(hp i hil).2.2.2;rw [‹l[i]=p›] at this;exact this
theorem z4r {W:World} {k:IntKind}:∀ (l:List Int),RtL W (l.map (T.int k)) (l.map (Value.int k))
  |[]=>.nil
  |x :: l=>.cons (.int _ _) (z4r l)
theorem beqN {a b:Nat} (h:Nat.beq a b=true):a=b:=Nat.eq_of_beq_eq_true h
mutual
theorem zq0:∀ {s:Sh} {t:TypeId} {fuel:Nat} {cs:List Value} {x:DataW H×List MemPlace},shOk P s t=true→DataW.trod enc P W 0 (fun _=>true) true fuel t cs=some x→zsa W cs→∃ tr,conf s tr∧RtL W tr.cells cs
  |.int k,t,fuel,cs,x,hs,h,hz=>by
    unfold shOk at hs;split at hs
    · rename_i k' hu;have:k=k':=of_decide_eq_true hs;subst this;obtain ⟨n,rfl,-,hw⟩:=DataW.trod_int hu h;exact ⟨.int k n,⟨n,rfl,hw⟩,.cons (.int k n) .nil⟩
    · simp at hs
  |.bool,t,fuel,cs,x,hs,h,hz=>by
    unfold shOk at hs;split at hs
    · rename_i hu;obtain ⟨b,rfl,-⟩:=DataW.trod_bool hu h;exact ⟨.bool b,⟨b,rfl⟩,.cons (.bool b) .nil⟩
    · simp at hs
  |.str,t,fuel,cs,x,hs,h,hz=>by
    unfold shOk at hs;split at hs
    · rename_i hu;obtain ⟨b,rfl,-,hb⟩:=DataW.trod_string hu h;exact ⟨.str b,⟨b,rfl,hb⟩,.cons (.str b) .nil⟩
    · simp at hs
  |.slice s,t,fuel,cs,x,hs,h,hz=>by
    unfold shOk at hs;split at hs
    · rename_i e hu;simp only [Bool.and_eq_true] at hs;exact z4w hu (beqN hs.1) (zac.1 hs.2.1) (fun h hz=>zq0 hs.2.2 h hz) h hz
    · simp at hs
  |.struct l,t,fuel,cs,x,hs,h,hz=>by
    unfold shOk at hs;split at hs
    · rename_i fs hu;simp only [Bool.and_eq_true] at hs;obtain ⟨xs,n,-,-,hl,hxl,hall⟩:=DataW.trod_struct hu h
      obtain ⟨ts,k1,k2⟩:=z2p (fs:=fs.toList) (o:=0) (pre:=cs) (fuel:=n) hs.2 (fun f hf=>by
        obtain ⟨i,hi,rfl⟩:=List.getElem_of_mem hf;have hi':i<fs.size:=by simpa using hi
        have:=hall i fs[i] (Array.getElem?_eq_getElem hi');rw [List.getElem?_eq_getElem (by omega)] at this
        exact ⟨_,by rw [Array.getElem_toList];exact this⟩) (by rw [hl,beqN hs.1];omega) hz
      rw [List.drop_zero] at k2;have hlen:cs.take (Sh.szL l)=cs:=List.take_of_length_le (by rw [hl,beqN hs.1];exact Nat.le_refl _);rw [hlen] at k2;exact ⟨.agg ts,⟨ts,rfl,k1⟩,k2⟩
    · simp at hs
  |.arr k n,t,fuel,cs,x,hs,h,hz=>by
    unfold shOk at hs;split at hs
    · rename_i m e hu;simp only [Bool.and_eq_true] at hs;obtain ⟨h1,h2,h3,h4⟩:=hs;split at h4
      · rename_i k' he;have hkk:k=k':=of_decide_eq_true h4;subst hkk;have hmn:=beqN h1;subst hmn;obtain ⟨xs,fu,rfl,hx1,hlen,hxl,hel⟩:=DataW.trod_array hu h;have hl:cs.length=m:=by rw [hlen];exact beqN h2
        have key:∀ i,i<m→∃ z,cs[i]?=some (.int k z)∧(Lit.int k z).wf=true:=by
          intro i hi;have h0:=hel i hi;rw [beqN h3,Nat.mul_one,List.getElem?_eq_getElem (by omega)] at h0;obtain ⟨z,e1,e2,e3⟩:=DataW.trod_int he h0;refine ⟨z,?_,e3⟩;have:(cs.drop i)[0]?=((cs.drop i).take 1)[0]?:=by rw [List.getElem?_take_of_lt (by omega)]
          have e1':(cs.drop i).take 1=[.int k z]:=e1;rw [e1'] at this;simpa using this
        obtain ⟨l,hl2,hp⟩:=yao (p:=fun i (z:Int)=>cs[i]?=some (.int k z)∧(Lit.int k z).wf=true) m key
        have hcl:cs=l.map (Value.int k):=by
          apply List.ext_getElem (by rw [hl,List.length_map,hl2]);intro i h1 h2;have:=(hp i (by rw [hl2,← hl];exact h1)).1;rw [List.getElem?_eq_getElem h1] at this;rw [List.getElem_map];exact Option.some.inj this
        refine ⟨.agg (l.map (T.int k)),⟨⟨l,hl2⟩,rfl,fun x hx=>?_⟩,?_⟩
        · obtain ⟨i,hi,rfl⟩:=List.getElem_of_mem hx;exact (hp i hi).2
        · rw [hcl];exact z4r l
      · simp at h4
    · simp at hs
theorem z2p:∀ {l:List Sh} {fs:List Field} {o fuel:Nat} {pre:List Value},z4x P l fs o=true→(∀ f,f∈fs→∃ x,DataW.trod enc P W 0 (fun _=>true) true fuel f.type ((pre.drop f.offset).take (P.cellsOf f.type))=some x)→o+Sh.szL l≤pre.length→zsa W pre→∃ ts,yh1 l ts∧RtL W ts ((pre.drop o).take (Sh.szL l))
  |[],[],o,fuel,pre,hs,h,hl,hz=>⟨[],rfl,by unfold Sh.szL;rw [List.take_zero];exact .nil⟩
  |[],_ :: _,o,fuel,pre,hs,h,hl,hz=>by simp [z4x] at hs
  |_ :: _,[],o,fuel,pre,hs,h,hl,hz=>by simp [z4x] at hs
  |s :: l,f :: fs,o,fuel,pre,hs,h,hl,hz=>by
    unfold z4x at hs;unfold Sh.szL at hl ⊢;simp only [Bool.and_eq_true] at hs;obtain ⟨x,hx⟩:=h f (by simp);rw [beqN hs.1,beqN hs.2.1] at hx;obtain ⟨tr,k1,k2⟩:=zq0 hs.2.2.1 hx (hz.sub fun v hv=>List.mem_of_mem_drop (List.mem_of_mem_take hv));obtain ⟨ts,k3,k4⟩:=z2p (o:=o+s.sz) (pre:=pre) (fuel:=fuel) hs.2.2.2 (fun g hg=>h g (by simp [hg])) (by omega) hz;refine ⟨tr.cells++ts,⟨tr,ts,rfl,k1,k3⟩,?_⟩;have:=k2.append k4;rw [show List.take s.sz (List.drop o pre)++List.take (Sh.szL l) (List.drop (o+s.sz) pre)=List.take (s.sz+Sh.szL l) (List.drop o pre) by rw [List.take_add,List.drop_drop]] at this;exact this
end
theorem zo0 {r:Reach} {base:Nat} {u:TypeId} {a:Addr} {n c:Nat} (h:Cell.okWide P W r base u (.slice (some a) n c)):0<W.heap.size:=by
  have key:Cell.ok P W r base u (.slice (some a) n c)→0<W.heap.size:=fun h=>by
    unfold Cell.ok at h;split at h<;>first|contradiction | (exact h.elim)|skip
    rename_i hq;cases hq;obtain ⟨-,-,-,-,row,cells,hs,-⟩:=h;unfold World.shape? at hs;by_cases hb:0<W.heap.size
    · exact hb
    · rw [Array.getElem?_eq_none (by omega)] at hs;simp at hs
  unfold Cell.okWide at h;split at h<;>first|exact key h|contradiction
theorem z5p {r:Reach} {base:Nat} {u:TypeId} {cs:Array Value} (h:Cell.okWide P W r base u (.agg cs)):False:=by
  unfold Cell.okWide at h;split at h<;>first|contradiction | (unfold Cell.ok at h;split at h<;>first|contradiction|exact h)
theorem z2r {r:Reach} {base:Nat} {s:Sh} {t:TypeId} {v:Value} {d:DataW H} {ps:List MemPlace} (hs:shOk P s t=true) (hv:Value.okWide P W r base t v) (h:DataW.Trod enc P W 0 (fun _=>true) true t v d ps):∃ tr,conf s tr∧Rt W tr v:=by
  obtain ⟨fuel,h⟩:=h
  have one:(∀ fs,P.underlying t≠some (.struct fs))→(∀ n e,P.underlying t≠some (.array n e))→(∀ l,s≠.struct l)→(∀ k n,s≠.arr k n)→∃ tr,conf s tr∧Rt W tr v:=fun h1 h2 h3 h4=>by
    have hc:Cell.okWide P W r base t v:=by
      unfold Value.okWide at hv;split at hv
      · rename_i fs hu;exact absurd hu (h1 fs)
      · rename_i n e hu;exact absurd hu (h2 n e)
      · exact hv
    have hcs:v.cells.toList=[v]:=by
      cases v<;>first|rfl|exact (z5p hc).elim
    rw [hcs] at h
    obtain ⟨tr,k1,k2⟩:=zq0 hs h (fun x hx ⟨a,n,c,he⟩=>by
      simp only [List.mem_singleton] at hx;subst hx;subst he
      exact zo0 hc)
    have ht:tr.cells=[tr]:=by
      cases s with
      |struct l=>exact absurd rfl (h3 l)
      |int k=>obtain ⟨n,rfl,_⟩:=k1;rfl
      |bool=>obtain ⟨n,rfl⟩:=k1;rfl
      |str=>obtain ⟨n,rfl,_⟩:=k1;rfl
      |slice e=>obtain ⟨l,rfl,_⟩:=k1;rfl
      |arr k n=>exact absurd rfl (h4 k n)
    rw [ht] at k2
    cases k2 with
    |cons a _=>exact ⟨tr,k1,a⟩
  cases s with
  |struct l =>
    have hu:∃ fs,P.underlying t=some (.struct fs):=by
      unfold shOk at hs;split at hs
      · rename_i fs hu;exact ⟨fs,hu⟩
      · simp at hs
    obtain ⟨fs,hu⟩:=hu;unfold Value.okWide at hv;rw [hu] at hv;obtain ⟨cs,rfl,-,ts,-,-,hall⟩:=hv
    obtain ⟨tr,k1,k2⟩:=zq0 hs h (fun x hx ⟨a,n,c,he⟩=>by
      subst he;obtain ⟨i,hi,hq⟩:=List.getElem_of_mem hx;have hi':i<cs.size:=by simpa [Value.cells] using hi
      obtain ⟨u,-,hu2⟩:=hall i _ (Array.getElem?_eq_getElem hi');have:cs[i]=.slice (some a) n c:=by simpa [Value.cells] using hq
      rw [this] at hu2
      exact zo0 hu2)
    obtain ⟨ts,rfl,_⟩:=id k1;exact ⟨_,k1,.agg (by simpa [T.cells,Value.cells] using k2)⟩
  |int k =>
    have:∃ k',P.underlying t=some (.int k'):=by
      unfold shOk at hs;split at hs
      · rename_i k' hu;exact ⟨k',hu⟩
      · simp at hs
    obtain ⟨k',hu⟩:=this;exact one (fun fs hh=>by rw [hu] at hh;simp at hh) (fun n e hh=>by rw [hu] at hh;simp at hh) (fun l hh=>by simp at hh) (fun k n hh=>by simp at hh)
  |bool =>
    have:P.underlying t=some .bool:=by
      unfold shOk at hs;split at hs
      · rename_i hu;exact hu
      · simp at hs
    exact one (fun fs hh=>by rw [this] at hh;simp at hh) (fun n e hh=>by rw [this] at hh;simp at hh) (fun l hh=>by simp at hh) (fun k n hh=>by simp at hh)
  |str =>
    have:P.underlying t=some .string:=by
      unfold shOk at hs;split at hs
      · rename_i hu;exact hu
      · simp at hs
    exact one (fun fs hh=>by rw [this] at hh;simp at hh) (fun n e hh=>by rw [this] at hh;simp at hh) (fun l hh=>by simp at hh) (fun k n hh=>by simp at hh)
  |slice e =>
    have:∃ e,P.underlying t=some (.slice e):=by
      unfold shOk at hs;split at hs
      · rename_i e hu;exact ⟨e,hu⟩
      · simp at hs
    obtain ⟨e',hu⟩:=this;exact one (fun fs hh=>by rw [hu] at hh;simp at hh) (fun n e hh=>by rw [hu] at hh;simp at hh) (fun l hh=>by simp at hh) (fun k n hh=>by simp at hh)
  |arr k n =>
    have hu:∃ m e,P.underlying t=some (.array m e):=by
      unfold shOk at hs;split at hs
      · rename_i m e hu;exact ⟨m,e,hu⟩
      · simp at hs
    obtain ⟨m,e,hu⟩:=hu;unfold Value.okWide at hv;rw [hu] at hv;obtain ⟨cs,rfl,-⟩:=hv;have hnoslice:∀ tr:T,conf (.arr k n) tr→True:=fun _ _=>trivial;have hs0:=hs;unfold shOk at hs0;rw [hu] at hs0;simp only [Bool.and_eq_true] at hs0;obtain ⟨q1,q2,q3,q4⟩:=hs0;split at q4
    · rename_i k' he;obtain ⟨xs,fu,-,-,hlen,hxlen,hel⟩:=DataW.trod_array hu h
      have hz:zsa W (Value.agg cs).cells.toList:=fun x hx ⟨a,n2,c,he2⟩=>by
        subst he2;obtain ⟨i,hi,hq⟩:=List.getElem_of_mem hx;have hl:(Value.agg cs).cells.toList.length=n:=by rw [hlen];exact beqN q2
        have hmn:=beqN q1;have h0:=hel i (by omega);rw [beqN q3,Nat.mul_one] at h0
        cases hxi:xs[i]? with
        |none =>
          rw [hxi] at h0;have:=List.getElem?_eq_none_iff.1 hxi;omega
        |some z =>
          rw [hxi] at h0;obtain ⟨w,e1,-,-⟩:=DataW.trod_int he h0;have e2:((Value.agg cs).cells.toList.drop i)[0]?=(((Value.agg cs).cells.toList.drop i).take 1)[0]?:=by rw [List.getElem?_take_of_lt (by omega)]
          rw [e1,List.getElem?_drop,Nat.add_zero,List.getElem?_eq_getElem hi,hq] at e2;simp at e2
      obtain ⟨tr,k1,k2⟩:=zq0 hs h hz;obtain ⟨a,rfl,_⟩:=id k1;exact ⟨_,k1,.agg (by simpa [T.cells,Value.cells] using k2)⟩
    · simp at q4
end
end
section
open Go Go.RowKit
def zrd (w:Nat):Nat:=if w=0 then 0 else Nat.log2 w+1
theorem zhn {n:Nat} (h:2≤n):Nat.log2 n=Nat.log2 (n / 2)+1:=by
  rw [Nat.log2_def,if_pos h]
theorem yb9 {n:Nat} (h:256≤n):zrd n=8+zrd (n / 256):=by
  unfold zrd;rw [if_neg (by omega),if_neg (by omega)];rw [zhn (n:=n) (by omega),zhn (n:=n / 2) (by omega),zhn (n:=n / 2 / 2) (by omega),zhn (n:=n / 2 / 2 / 2) (by omega),zhn (n:=n / 2 / 2 / 2 / 2) (by omega),zhn (n:=n / 2 / 2 / 2 / 2 / 2) (by omega),zhn (n:=n / 2 / 2 / 2 / 2 / 2 / 2) (by omega),zhn (n:=n / 2 / 2 / 2 / 2 / 2 / 2 / 2) (by omega)];rw [show n / 2 / 2 / 2 / 2 / 2 / 2 / 2 / 2=n / 256 by omega];omega
theorem zvp {n:Nat} (h:n<65536):zrd n≤16:=by
  unfold zrd;split
  · omega
  · have:Nat.log2 n<16:=(Nat.log2_lt (by omega)).2 h;omega
def yj7 (b:ByteArray):Bool:=(List.range 256).all fun k=>if h:k<b.size then Nat.beq b[k].toNat (zrd k) else true
theorem z6e {b:ByteArray} (hb:yj7 b=true) {k:Nat} (hk:k<256) (h:k<b.size):b[k].toNat=zrd k:=by
  have:=List.all_eq_true.1 hb k (List.mem_range.2 hk);rw [dif_pos h] at this;exact Nat.eq_of_beq_eq_true this
theorem z1j (n:Int) (h:-9223372036854775808≤n∧n≤9223372036854775807):Go.RowKit.wrap64 n=n:=by unfold Go.RowKit.wrap64;omega
theorem wrapL {n:Nat} (h:n≤64):Go.RowKit.wrap64 (Go.RowKit.wrap64 (n:Int))=n:=by rw [z1j (n:Int) (by omega),z1j _ (by omega)]
set_option maxRecDepth 100000 in
set_option maxHeartbeats 2000000 in
theorem z5q (n:Nat) (W:World) (hn:n<65536):Calls Tryz.prog 150 #[.int .u16 n] W fun e W'=>e=.returned (.int .i64 (zrd n))∧W'=W:=by
  go_enter Tryz.func150,Tryz.ntmps150
  by_cases h:n<256
  · go_wp2
    go_ret
    refine ⟨?_,rfl⟩;clear W;refine congrArg (fun z=>Ending.returned (.int .i64 z)) ?_;rw [z6e (by decide +kernel) h];exact wrapL (Nat.le_trans (zvp hn) (by decide))
  · go_wp2
    go_ret
    refine ⟨?_,rfl⟩;clear W;refine congrArg (fun z=>Ending.returned (.int .i64 z)) ?_;have hk:n / 256<256:=by omega
    have h1:=zvp (n:=n / 256) (by omega);rw [yb9 (by omega),z6e (by decide +kernel) hk,z1j ((zrd (n / 256):Nat):Int) (by omega),z1j _ (by omega)];rfl
set_option maxRecDepth 100000 in
set_option maxHeartbeats 2000000 in
theorem yas (n z:Nat) (W:World) (hn:n<65536) (h0:n≠0) (hz:z=15 - Nat.log2 n):Calls Tryz.prog 141 #[.int .u16 n] W fun e W'=>e=.returned (.int .i64 (z:Int))∧W'=W:=by
  have h16:=zvp hn;have hl:zrd n=Nat.log2 n+1:=by unfold zrd;rw [if_neg h0]
  go_enter Tryz.func141,Tryz.ntmps141
  go_wp2_with (refine (z5q _ _ hn).mono ?_;rintro e w' ⟨rfl,rfl⟩)
  go_ret
  refine ⟨?_,rfl⟩;refine congrArg (fun z=>Ending.returned (.int .i64 z)) ?_;omega
end
section
open Go Go.RowKit
theorem z9d {v:Value} {m:Nat} (h:i64N v=some m):v=.int .i64 (m:Nat)∧m<9223372036854775808:=by
  unfold i64N at h;split at h
  · rename_i k m';rw [zb4] at h;split at h
    · rename_i h1;simp only [Bool.and_eq_true] at h1
      have hk:k=.i64:=by
        have:=Nat.eq_of_beq_eq_true h1.1;cases k<;>first|rfl | (exact absurd this (by decide))
      subst hk;cases h;exact ⟨rfl,zac.1 h1.2⟩
    · cases h
  · cases h
theorem ztk:∀ {n:Nat} {cs:List Value} {l:List Nat},zq4 n cs=some l→l.length=n∧(∀ j,(h:j<l.length)→l[j]<9223372036854775808)∧∀ j,(h:j<l.length)→cs[j]?=some (.int .i64 (l[j]:Nat))
  |0,cs,l,h=>by
    cases cs<;>(simp only [zq4,Option.some.injEq] at h;subst h;exact ⟨rfl,fun j h=>absurd h (Nat.not_lt_zero _),fun j h=>absurd h (Nat.not_lt_zero _)⟩)
  |n+1,[],l,h=>by simp [zq4] at h
  |n+1,v :: cs,l,h=>by
    rw [zq4] at h
    cases hv:i64N v with
    |none=>rw [hv] at h;cases h
    |some m =>
      cases hr:zq4 n cs with
      |none=>rw [hv,hr] at h;cases h
      |some r =>
        rw [hv,hr] at h;cases h;obtain ⟨rfl,hm⟩:=z9d hv;obtain ⟨a,b,c⟩:=ztk hr;refine ⟨by rw [List.length_cons,a],fun j hj=>?_,fun j hj=>?_⟩
        · cases j with
          |zero=>exact hm
          |succ j=>exact b j (by simpa using hj)
        · cases j with
          |zero=>rfl
          |succ j=>simpa using c j (by simpa using hj)
def ya7 (W:World) (v:Value) (l:List Nat):Prop:=∃ b o:Nat,v=.pointer (some ⟨b,o,none⟩)∧(∀ j,(h:j<l.length)→l[j]<9223372036854775808)∧∀ j,(h:j<l.length)→W.cell? ⟨b,o+j,none⟩=some (.int .i64 (l[j]:Nat))
theorem zjt {n:Nat} {s s':CS} {v:Value} {l:List Nat} (h:zn1 n s v=some (l,s')):Can s s'∧s'.obj=s.obj∧s'.n=s.n:=by
  unfold zn1 at h;split at h
  · split at h
    · rename_i hr;split at h
      · simp only [Option.some.injEq,Prod.mk.injEq] at h;obtain ⟨rfl,rfl⟩:=h;refine ⟨zph hr,?_,?_⟩<;>(rw [(ze5 hr).2])
      · cases h
    · cases h
  · cases h
theorem zq3 {n:Nat} {s s':CS} {v v':Value} {l:List Nat} {σ:Sg} {V:Nat→Prop} {W:World} (h:zn1 n s v=some (l,s')) (hv:VR σ v v') (hr:Rel σ V s W) (hV:zb0 V s'):l.length=n∧ya7 W v' l:=by
  unfold zn1 at h;split at h
  · rename_i a;split at h
    · rename_i cs s1 hrr;split at h
      · rename_i l1 hl;simp only [Option.some.injEq,Prod.mk.injEq] at h;obtain ⟨rfl,rfl⟩:=h;obtain ⟨b,o,z,h1,rfl⟩:=hv.ptr;have hrow:=zvb hrr hr hV h1;obtain ⟨a1,a2,a3⟩:=ztk hl;refine ⟨a1,b,o+a.off,rfl,a2,fun j hj=>?_⟩;have:=a3 j hj;rw [List.getElem?_drop] at this;obtain ⟨u',k1,k2⟩:=hrow.2.2.2 _ _ this;rw [k2.int] at k1;rw [Nat.add_assoc];exact k1
      · cases h
    · cases h
  · cases h
theorem ybs {caps:List Value} {s s':CS} {k:List Nat} (h:zlz.key caps s=some (k,s')):Can s s'∧s'.obj=s.obj∧s'.n=s.n:=by
  unfold zlz at h;dsimp only at h;split at h
  · split at h
    · rename_i h1;split at h
      · rename_i h2;simp only [Option.some.injEq,Prod.mk.injEq] at h;obtain ⟨rfl,rfl⟩:=h;obtain ⟨c1,o1,n1⟩:=zjt h1;obtain ⟨c2,o2,n2⟩:=zjt h2;exact ⟨c1.trans c2,o2.trans o1,n2.trans n1⟩
      · cases h
    · cases h
  · cases h
theorem z2q {caps':Array Value} {k:List Nat} {W:World} (h:Now zlz caps' k W):∃ p q l m,caps'=#[p,q]∧k=l++m∧l.length=10∧m.length=10∧ya7 W p l∧ya7 W q m:=by
  obtain ⟨σ,V,s,s1,caps,h1,h2,h3,h4,h5⟩:=h;unfold zlz at h5;dsimp only at h5;split at h5
  · rename_i p q;split at h5
    · rename_i l s2 hp;split at h5
      · rename_i m s3 hq;simp only [Option.some.injEq,Prod.mk.injEq] at h5;obtain ⟨rfl,rfl⟩:=h5;obtain ⟨xs⟩:=caps'
        match xs,h1 with
        |[p',q'],h1 =>
          obtain ⟨v1,v2,_⟩:=h1;obtain ⟨c2,o2,n2⟩:=zjt hq;obtain ⟨c1,o1,n1⟩:=zjt hp;obtain ⟨a1,a2⟩:=zq3 hp v1 h2 (h3.back c2);obtain ⟨b1,b2⟩:=zq3 hq v2 (h2.state o1 n1) h3;exact ⟨p',q',l,m,rfl,rfl,a1,b1,a2,b2⟩
      · cases h5
    · cases h5
  · cases h5
/-! the bits of a word -/
theorem z5s (f:Nat):zzi f 0=[]:=by cases f<;>rfl
theorem z5t {f w:Nat} (h:w≠0):zzi (f+1) w=(15 - Nat.log2 w) :: zzi f (w - 2 ^ Nat.log2 w):=by
  rw [zzi,zka h,zw0];rfl
theorem z54 {f w:Nat} (h:w≠0) (hw:w<2 ^ f):w - 2 ^ Nat.log2 w<2 ^ (f - 1)∧w - 2 ^ Nat.log2 w<w∧1≤f:=by
  have h1:Nat.log2 w<f:=(Nat.log2_lt h).2 hw;have h2:w<2 ^ (Nat.log2 w+1):=Nat.lt_log2_self;have h3:2 ^ Nat.log2 w≤w:=Nat.log2_self_le h;have h4:2 ^ Nat.log2 w≤2 ^ (f - 1):=Nat.pow_le_pow_right (by decide) (by omega);have h5:0<2 ^ Nat.log2 w:=Nat.two_pow_pos _;rw [Nat.pow_succ] at h2;exact ⟨by omega,by omega,by omega⟩
theorem z46:∀ {i:Nat} {l m:List Nat},(h:i<l.length)→(h2:i<m.length)→∀ s,zse (s+i) (l.drop i) (m.drop i)=(zzi 17 ((l[i] - (l[i] &&& m[i])) % 65536)).map (16*(s+i)+·)++zse (s+i+1) (l.drop (i+1)) (m.drop (i+1)):=by
  intro i l m h h2 s;rw [List.drop_eq_getElem_cons h,List.drop_eq_getElem_cons h2,zse];rfl
end
section
open Go Go.RowKit
theorem ydc {w:Nat} (x y:BitVec w):x &&& ~~~y=x - (x &&& y):=by
  have h1:(x &&& ~~~y) &&& (x &&& y)=0#w:=by
    apply BitVec.eq_of_getLsbD_eq;intro i hi;simp only [BitVec.getLsbD_and,BitVec.getLsbD_not,hi,decide_true,Bool.true_and,BitVec.getLsbD_zero];cases x.getLsbD i<;>cases y.getLsbD i<;>rfl
  have h2:(x &&& ~~~y) ||| (x &&& y)=x:=by
    apply BitVec.eq_of_getLsbD_eq;intro i hi;simp only [BitVec.getLsbD_or,BitVec.getLsbD_and,BitVec.getLsbD_not,hi,decide_true,Bool.true_and];cases x.getLsbD i<;>cases y.getLsbD i<;>rfl
  have h3:=BitVec.add_eq_or_of_and_eq_zero _ _ h1;rw [h2] at h3;exact BitVec.eq_sub_iff_add_eq.2 h3
theorem zr7 (w:Nat) {a b:Nat} (ha:a<2 ^ w) (hb:b<2 ^ w):a &&& (2 ^ w - 1 - b)=a - (a &&& b):=by
  have h:=congrArg BitVec.toNat (ydc (BitVec.ofNat w a) (BitVec.ofNat w b));rw [BitVec.toNat_and,BitVec.toNat_not,BitVec.toNat_ofNat,BitVec.toNat_ofNat,Nat.mod_eq_of_lt ha,Nat.mod_eq_of_lt hb,BitVec.toNat_sub_of_le,BitVec.toNat_and,BitVec.toNat_ofNat,BitVec.toNat_ofNat,Nat.mod_eq_of_lt ha,Nat.mod_eq_of_lt hb] at h
  · exact h
  · rw [BitVec.le_def,BitVec.toNat_and];exact Nat.and_le_left
theorem z5x {a b:Nat} (ha:a<9223372036854775808) (hb:b<9223372036854775808):bits .andNot .i64 (a:Int) (b:Int)=((a - (a &&& b):Nat):Int):=by
  have h:=zr7 64 (a:=a) (b:=b) (by omega) (by omega);show IntKind.i64.wrap ((BitVec.ofInt 64 (a:Int) &&& ~~~BitVec.ofInt 64 (b:Int)).toNat:Int)=_;rw [BitVec.toNat_and,BitVec.toNat_not,BitVec.toNat_ofInt,BitVec.toNat_ofInt];rw [show ((a:Int) % ((2 ^ 64:Nat):Int)).toNat=a by omega,show ((b:Int) % ((2 ^ 64:Nat):Int)).toNat=b by omega,h];have hc:a - (a &&& b)<9223372036854775808:=by omega
  generalize a - (a &&& b)=c at *;simp [IntKind.wrap,IntKind.bits,IntKind.signed];split<;>omega
end
section
open Go Go.RowKit Go.Shelf
attribute [local go_sem] Oper.semAt_some
theorem yih (n:Nat):IntKind.u16.wrap (n:Int)=((n % 65536:Nat):Int):=by
  rw [IntKind.wrap_u16];omega
theorem yan {w k:Nat} (hw:w<65536) (h0:w≠0) (hk:k=Nat.log2 w):bits .andNot .u16 (w:Int) (IntKind.u16.wrap (2 ^ k))=((w - 2 ^ k:Nat):Int):=by
  subst hk;have h1:=Nat.log2_self_le h0;have h2:(2:Int) ^ Nat.log2 w=((2 ^ Nat.log2 w:Nat):Int):=by rw [Int.natCast_pow];rfl
  rw [h2,yih,Nat.mod_eq_of_lt (by omega),u16_andNot_nat _ _ hw (by omega)];rw [show 65535 - 2 ^ Nat.log2 w=2 ^ 16 - 1 - 2 ^ Nat.log2 w from rfl,zr7 16 hw (by omega),show w &&& 2 ^ Nat.log2 w=2 ^ Nat.log2 w from ?_];apply Nat.eq_of_testBit_eq;intro i;rw [Nat.testBit_and,Nat.testBit_two_pow];by_cases h:Nat.log2 w=i
  · rw [← h,Nat.testBit_log2 h0];simp
  · simp [h]
set_option maxRecDepth 100000 in
set_option maxHeartbeats 4000000 in
theorem z73 (caps':Array Value) (k:List Nat) (kd l:Nat) (J:Nat→World→Prop) (Jx:World→Prop) (W:World)
    (hN:∀ j W1,J j W1→Now zlz caps' k W1)
    (hY:∀ kd' j x W1,(zlz.xs k)[j]?=some x→J j W1→YieldAt Fence.wide kd' Tryz.prog l x.toArray W1 fun e W'=>(e=.returned (.bool true)∧J (j+1) W')∨(e=.returned (.bool false)∧Jx W'))
    (hB:∀ j W1 W2,J j W1→Below W1.heap.size W1 W2→J j W2) (h0:J 0 W):CallsIn Fence.wide kd Tryz.prog 140 (#[.func (.yield l) #[] #[]]++caps') W fun e W'=>(∃ v,e=.returned v)∧(J (zlz.xs k).length W'∨Jx W'):=by
  obtain ⟨p,q,L,M,rfl,rfl,hL,hM,hp,hq⟩:=z2q (hN 0 W h0);obtain ⟨b1,o1,rfl,hLm,hp⟩:=hp;obtain ⟨b2,o2,rfl,hMm,hq⟩:=hq
  have hcells:∀ j W1,J j W1→(∀ i,(h:i<L.length)→W1.cell? ⟨b1,o1+i,none⟩=some (.int .i64 (L[i]:Nat)))∧(∀ i,(h:i<M.length)→W1.cell? ⟨b2,o2+i,none⟩=some (.int .i64 (M[i]:Nat))):=by
    intro j W1 hj;obtain ⟨p,q,L',M',e1,e2,hL',hM',hp',hq'⟩:=z2q (hN j W1 hj);obtain ⟨rfl,rfl⟩:=List.append_inj e2 (by rw [hL,hL']);obtain ⟨b1',o1',rfl,_,hp'⟩:=hp';obtain ⟨b2',o2',rfl,_,hq'⟩:=hq';simp only [Array.mk.injEq,List.cons.injEq,Value.pointer.injEq,Option.some.injEq,Addr.mk.injEq,and_true] at e1;obtain ⟨⟨rfl,rfl⟩,rfl,rfl⟩:=e1;exact ⟨hp',hq'⟩
  show CallsIn Fence.wide kd Tryz.prog 140 #[.func (.yield l) #[] #[],.pointer (some ⟨b1,o1,none⟩),.pointer (some ⟨b2,o2,none⟩)] W _;obtain ⟨X,hX⟩:∃ X,X=zlz.xs (L++M):=⟨_,rfl⟩
  have HX:X=(zse 0 L M).map fun n=>[.int .i64 (.ofNat n)]:=by
    rw [hX];show (zse 0 ((L++M).take 10) ((L++M).drop 10)).map _=_;rw [List.take_append_of_le_length (by omega),List.take_of_length_le (by omega),List.drop_append_of_le_length (by omega),List.drop_of_length_le (by omega),List.nil_append]
  rw [← hX] at hY ⊢;refine callsIn_of_wp Tryz.func140 rfl trivial ?_ rfl;simp only [Tryz.ntmps140,List.size_toArray,List.length_cons,List.length_nil,Nat.reduceAdd,Nat.reduceSub,Array.replicate_succ,Array.replicate_zero,List.push_toArray,List.append_toArray,List.nil_append,List.cons_append]
  gi_wp2
  gi_loopw [7] (fun v wr=>∃ i j:Nat,j≤X.length∧i≤10∧v=.int .i64 i∧J j wr∧X.drop j=(zse i (L.drop i) (M.drop i)).map fun n=>[.int .i64 (.ofNat n)])
    (fun v _=>10 - (intOf v).toNat)
  case atStart=>exact ⟨0,0,Nat.zero_le _,Nat.zero_le _,rfl,h0,by rw [List.drop_zero,List.drop_zero,List.drop_zero];exact HX⟩
  case round =>
    obtain ⟨i,j,hjX,hi,rfl,hJ,hd⟩:=hrel;by_cases hlt:i<10
    · obtain ⟨c1,c2⟩:=hcells j _ hJ;have h1:=c1 i (by omega);have h2:=c2 i (by omega);have a1:=hLm i (by omega);have a2:=hMm i (by omega);have hod:=z46 (i:=i) (l:=L) (m:=M) (by omega) (by omega) 0;rw [Nat.zero_add] at hod;have han:=z5x a1 a2;have hle:L[i] - (L[i] &&& M[i])<9223372036854775808:=by omega
      gi_wp2
      gi_region
      rw [yih]
      gi_wp2
      have hJ':=hB j wr wr.drew hJ ((Below.refl wr.heap.size wr).drew);clear hJ hcells c1 c2 h1 h2;obtain ⟨w0,hw0⟩:∃ w0,w0=(L[i] - (L[i] &&& M[i])) % 65536:=⟨_,rfl⟩;rw [← hw0] at hod ⊢;have hw1:w0<65536:=by omega
      rw [hod] at hd;clear hod han hle hw0 a1 a2;obtain ⟨R,hR⟩:∃ R,R=zse (i+1) (L.drop (i+1)) (M.drop (i+1)):=⟨_,rfl⟩;rw [← hR] at hd
      gi_loopw [5] (fun v wr=>∃ w f j:Nat,j≤X.length∧v=.int .u16 w∧w<2 ^ f∧f≤16∧J j wr∧X.drop j=((zzi (f+1) w).map (fun x=>16*i+x)++R).map fun n=>[.int .i64 (.ofNat n)])
        (fun v _=>(intOf v).toNat)
      case atStart=>exact ⟨w0,16,j,hjX,rfl,hw1,Nat.le_refl _,hJ',hd⟩
      case round =>
        obtain ⟨w,f,j,hjX,rfl,hw,hf,hJ,hd⟩:=hrel;have hw2:w<65536:=Nat.lt_of_lt_of_le hw (Nat.pow_le_pow_right (by decide) hf);by_cases h0:w=0
        · subst h0;rw [z5s,List.map_nil,List.nil_append,hR] at hd
          gi_wp2
          go_roundw
          case rel=>exact ⟨i+1,j,hjX,by omega,by go_num,hJ,hd⟩
          case measure=>simp [intOf];omega
        · obtain ⟨q1,q2,q3⟩:=z54 h0 hw;obtain ⟨z,hz⟩:∃ z,z=15 - Nat.log2 w:=⟨_,rfl⟩;have hz15:z≤15:=by omega
          have hlg:Nat.log2 w≤15:=by
            have:=(Nat.log2_lt h0).2 (show w<2 ^ 16 by omega);omega
          obtain ⟨w2,hw2e⟩:∃ w2,w2=w - 2 ^ Nat.log2 w:=⟨_,rfl⟩;rw [z5t h0,← hz,← hw2e,List.map_cons,List.cons_append,List.map_cons] at hd
          have hjl:j<X.length:=by
            have:=congrArg List.length hd;simp at this;omega
          rw [List.drop_eq_getElem_cons hjl] at hd;obtain ⟨hd1,hd2⟩:=List.cons.inj hd;have hx:X[j]?=some [.int .i64 (.ofNat (16*i+z))]:=by rw [List.getElem?_eq_getElem hjl,hd1]
          obtain ⟨fn,tmps,assign,body,hy,hR1⟩:=hY (kd - 1) j _ wr hx hJ;have hcall:=yas w z wr hw2 h0 hz;have hcl:=yan (k:=15 - z) hw2 h0 (by omega);rw [show 15 - z=Nat.log2 w by omega,← hw2e,show Nat.log2 w=15 - z by omega] at hcl
          have hpw:2 ^ (15 - z)≤w∧2 ^ (15 - z)<65536:=by
            have e:15 - z=Nat.log2 w:=by omega
            rw [e];exact ⟨Nat.log2_self_le h0,Nat.lt_of_le_of_lt (Nat.log2_self_le h0) hw2⟩
          rw [← hw2e] at q1 q2;clear hz hw2e hlg;rw [show Int.ofNat (16*i+z)=16*(i:Int)+(z:Int) from by simp] at hy;clear hd
          gi_wp2_with (refine ⟨trivial,fun hq=>absurd hq (by simp [Fence.wide]),(callsIn_wide.2 hcall).mono ?_⟩;rintro e w' ⟨rfl,rfl⟩)
          refine ⟨fun hq=>absurd hq (by simp [Fence.wide]),hR1.mono ?_⟩;rintro e W3 (⟨rfl,hJ3⟩|⟨rfl,hJx3⟩)
          · gi_wp2
            go_roundw
            case rel =>
              exact ⟨w2,f - 1,j+1,by omega,rfl,q1,by omega,hJ3,by rw [hd2,Nat.sub_add_cancel q3]⟩
            case measure =>
              show (w2:Int).toNat<(w:Int).toNat
              omega
          · gi_wp2
            refine bodyPost_ret (results_none rfl _ _ _) rfl ?_;exact ⟨⟨_,rfl⟩,.inr hJx3⟩
    · obtain rfl:i=10:=by omega
      gi_wp2
      go_end0
      rw [List.drop_of_length_le (show L.length≤10 by omega)] at hd
      have hjX2:X.length≤j:=by
        have:=congrArg List.length hd;simp [zse] at this;omega
      obtain rfl:j=X.length:=Nat.le_antisymm hjX hjX2;exact ⟨⟨_,rfl⟩,.inl hJ⟩
theorem yhf:ItOk Tryz.prog 140 zlz where
  can:=fun caps s k s' h _=>ybs h
  plain:=fun k x hx σ=>by
    obtain ⟨n,_,rfl⟩:=List.mem_map.1 hx;exact ⟨VR.ofInt _ _,trivial⟩
  enter:=enters_of Tryz.func140 (by kernel_rfl) rfl
  runs:=fun caps' k kd l J Jx W h1 h2 _ h4 h5=>z73 caps' k kd l J Jx W h1 h4 h2 h5
end
section
open Go Go.RowKit
def nlI:Option (List Int)→T
  |none=>.nils
  |some l=>.lst 1 (l.map (T.int .i64))
theorem zas {n:Nat} (o:Option (List Int)):(nlI o).ids n=true:=by
  cases o with
  |none=>rfl
  |some l=>exact zpn l
theorem z21 {o:Option (List Int)} (h:o.isSome=true):nlI o=.lst 1 ((o.getD []).map (T.int .i64)):=by
  cases o with
  |none=>cases h
  |some l=>rfl
theorem ybv {o:Option (List Int)} (h:o.isSome=false):nlI o=.nils:=by
  cases o with
  |none=>rfl
  |some l=>cases h
theorem yji {Γ:Env} {t e' z bb:Nat} {zs:List Value} (hi:Γ.ti.at t=some ⟨.slice e',z,bb,zs⟩) (P:Program) (S:TS) (x y:Operand):tBin P Γ S t .eql x y .nils .nils=some (.bool true):=by
  unfold tBin;simp only [hi];rfl
theorem yjj {Γ:Env} {t e' z bb:Nat} {zs:List Value} (hi:Γ.ti.at t=some ⟨.slice e',z,bb,zs⟩) (P:Program) (S:TS) (x y:Operand) {l:List Int} (h:l.length≠0):tBin P Γ S t .eql x y (.lst 1 (l.map (T.int .i64))) .nils=some (.bool false):=by
  cases l with
  |nil=>exact absurd rfl h
  |cons a l=>unfold tBin;simp only [hi];rfl
def cpL {n:Nat} (a:Ar n) (l:List Int):Ar n:=⟨l.take (min l.length n)++a.l.drop (min l.length n),by rw [List.length_append,List.length_take,List.length_drop,a.h];omega⟩
theorem yib {k:IntKind} {n:Nat} (a:Ar n) (l:List Int):spl (a.l.map (T.int k)) 0 ((l.map (T.int k)).take (min l.length n))=(cpL a l).l.map (T.int k):=by
  unfold spl cpL;rw [List.take_zero,List.nil_append,List.length_take,List.length_map,Nat.zero_add,List.map_append,List.map_take,List.map_drop];congr 2;omega
theorem isu8 (ax:Axs):isU8 (EE ax) 5=true:=by kernel_rfl
end
section
open Go Go.RowKit
theorem zga {P:Program} {Γ:Env} {S:TS} {t:TypeId} {op:BinOp} {x y:Operand} {m n:Bool}:tBin P Γ S t op x y (.bool m) (.bool n)=(Γ.ti.at t).bind fun i=>match i.desc,op with|.bool,.eql=>some (.bool (m == n))|.bool,.neq=>some (.bool (!(m == n)))|_,_=>none:=by
  unfold tBin;cases Γ.ti.at t<;>rfl
theorem zni:(true == true)=true:=Eq.trans rfl rfl
theorem znj:(true == false)=false:=Eq.trans rfl rfl
theorem znk:(false == true)=false:=Eq.trans rfl rfl
theorem znl:(false == false)=true:=Eq.trans rfl rfl
end
section
open Go Go.RowKit
def atR (rl:List Nat) (i:Nat):Nat:=rl.getD i 0
def memB:List Nat→Nat→Bool
  |[],_=>false
  |y :: l,x=>Nat.beq y x || memB l x
def zti:List Nat→Bool
  |[]=>true
  |x :: l=>!(memB l x) && zti l
def rlOk (n0 n1 m m':Nat) (rl:List Nat):Bool :=
  Nat.ble n0 n1 && (Nat.beq rl.length n1 && (Nat.ble m m' && (rl.all (fun x=>Nat.blt x m') && ((rl.take n0).all (fun x=>Nat.blt x m) && ((rl.drop n0).all (fun x=>Nat.ble m x) && zti rl)))))
def PreL (ρ:Nat→Nat) (n:Nat) (bs:List Box):List Nat→List Box→Prop
  |r :: rl,b :: bl=>(bs.getD r .gone=zed ρ b∧zgt n b=true)∧PreL ρ n bs rl bl
  |_,_=>True
def zsj (rl:List Nat):Nat→List Box→List Box→Prop
  |i,a :: l,b :: m=>(memB rl i=true∨b=a)∧zsj rl (i+1) l m
  |i,[],b :: m=>memB rl i=true∧zsj rl (i+1) [] m
  |_,_,[]=>True
theorem PreL.get {ρ:Nat→Nat} {n:Nat} {bs:List Box}:∀ {rl:List Nat} {bl:List Box},PreL ρ n bs rl bl→∀ i,i<rl.length→i<bl.length→bs.getD (rl.getD i 0) .gone=zed ρ (bl.getD i .gone)∧zgt n (bl.getD i .gone)=true
  |r :: rl,b :: bl,h,0,_,_=>h.1
  |r :: rl,b :: bl,h,i+1,h1,h2=>PreL.get (rl:=rl) (bl:=bl) h.2 i (by simpa using h1) (by simpa using h2)
theorem zsj.get {rl:List Nat}:∀ {i:Nat} {l m:List Box},zsj rl i l m→l.length≤m.length→∀ b,memB rl (i+b)=false→m.getD b .gone=l.getD b .gone
  |i,a :: l,b :: m,h,hl,0,hm=>by
    rcases h.1 with q|q
    · rw [Nat.add_zero] at hm;rw [hm] at q;cases q
    · exact q
  |i,a :: l,b :: m,h,hl,k+1,hm=>zsj.get (l:=l) (m:=m) h.2 (by simpa using hl) k (by rw [show i+1+k=i+(k+1) by omega];exact hm)
  |i,[],b :: m,h,hl,0,hm=>by have q:=h.1;rw [Nat.add_zero] at hm;rw [hm] at q;cases q
  |i,[],b :: m,h,hl,k+1,hm=>zsj.get (l:=[]) (m:=m) h.2 (Nat.zero_le _) k (by rw [show i+1+k=i+(k+1) by omega];exact hm)
  |i,[],[],h,hl,k,hm=>rfl
theorem zp0 {p:Nat→Bool}:∀ {l:List Nat},l.all p=true→∀ i,i<l.length→p (l.getD i 0)=true
  |x :: l,h,0,_=>by simp only [List.all_cons,Bool.and_eq_true] at h;exact h.1
  |x :: l,h,i+1,hi=>by
    simp only [List.all_cons,Bool.and_eq_true] at h;exact zp0 (l:=l) h.2 i (by simpa using hi)
theorem zvm:∀ {l:List Nat} {i:Nat},i<l.length→memB l (l.getD i 0)=true
  |x :: l,0,_=>by show (Nat.beq x x || memB l x)=true;rw [Nat.beq_refl];rfl
  |x :: l,i+1,h=>by
    show (Nat.beq x (l.getD i 0) || memB l (l.getD i 0))=true;rw [zvm (l:=l) (by simpa using h),Bool.or_true]
theorem zth:∀ {l:List Nat},zti l=true→∀ i j,i<l.length→j<l.length→l.getD i 0=l.getD j 0→i=j
  |x :: l,h,0,0,_,_,_=>rfl
  |x :: l,h,0,j+1,_,hj,e=>by
    simp only [zti,Bool.and_eq_true,Bool.not_eq_true'] at h;have:=zvm (l:=l) (i:=j) (by simpa using hj);rw [show l.getD j 0=x from e.symm] at this;rw [h.1] at this;cases this
  |x :: l,h,i+1,0,hi,_,e=>by
    simp only [zti,Bool.and_eq_true,Bool.not_eq_true'] at h;have:=zvm (l:=l) (i:=i) (by simpa using hi);rw [show l.getD i 0=x from e] at this;rw [h.1] at this;cases this
  |x :: l,h,i+1,j+1,hi,hj,e=>by
    simp only [zti,Bool.and_eq_true] at h;rw [zth (l:=l) h.2 i j (by simpa using hi) (by simpa using hj) e]
theorem z6t {bs:List Box} {b:Nat} (h:bs.length≤b):(stL bs).box b=.gone:=by
  show bs.getD b .gone=.gone;rw [List.getD_eq_getElem?_getD,List.getElem?_eq_none h];rfl
theorem yhs {rl:List Nat} {bs0 bs1 bs bs':List Box} (h1:rlOk bs0.length bs1.length bs.length bs'.length rl=true) (h4:PreL (atR rl) bs0.length bs rl bs0) (h5:PreL (atR rl) bs1.length bs' rl bs1) (h6:zsj rl 0 bs bs'):Fits (atR rl) (stL bs0) (stL bs1) (stL bs) (stL bs'):=by
  unfold rlOk at h1;simp only [Bool.and_eq_true] at h1;obtain ⟨a1,a2,a3,a4,a5,a6,a7⟩:=h1;have a1:=za2.1 a1;have a2:=Nat.eq_of_beq_eq_true a2;have a3:=za2.1 a3;refine ⟨a1,fun b hb=>z6t hb,fun i hi=>?_,fun i hi hj=>?_,fun i hi=>?_,a3,fun i j hi hj e=>?_,fun i hi=>?_,fun i hi=>?_,fun b hb=>?_⟩
  · have hi:i<bs0.length:=hi;have:=zp0 a5 i (by rw [List.length_take];omega);rw [List.getD_eq_getElem?_getD,List.getElem?_take,if_pos hi,← List.getD_eq_getElem?_getD] at this;exact zac.1 this
  · have hi:bs0.length≤i:=hi;have hj:i<bs1.length:=hj;have:=zp0 a6 (i - bs0.length) (by rw [List.length_drop];omega);rw [List.getD_eq_getElem?_getD,List.getElem?_drop,show bs0.length+(i - bs0.length)=i by omega,← List.getD_eq_getElem?_getD] at this;exact za2.1 this
  · have hi:i<bs1.length:=hi;exact zac.1 (zp0 a4 i (by omega))
  · exact zth a7 i j (by rw [a2];exact hi) (by rw [a2];exact hj) e
  · have hi:i<bs0.length:=hi;exact h4.get i (by omega) hi
  · have hi:i<bs1.length:=hi;exact h5.get i (by omega) hi
  · refine h6.get a3 b ?_;rw [Nat.zero_add]
    cases hm:memB rl b with
    |false=>rfl
    |true =>
      exfalso
      have key:∀ {l:List Nat},memB l b=true→∃ i,i<l.length∧l.getD i 0=b:=by
        intro l
        induction l with
        |nil=>intro h;cases h
        |cons x l ih =>
          intro h;simp only [memB,Bool.or_eq_true] at h;rcases h with h|h
          · exact ⟨0,by simp,Nat.eq_of_beq_eq_true h⟩
          · obtain ⟨i,h1,h2⟩:=ih h;exact ⟨i+1,by simpa using h1,h2⟩
      obtain ⟨i,q1,q2⟩:=key hm;exact hb i (by show i<bs1.length;omega) q2
theorem Call.at {P:Program} {Γ:Env} {GL:List (Nat×List Value)} {f:FuncId} {args args':List T} {v v':T} {bs0 bs1 bs bs':List Box} (rl:List Nat) (k:Call P Γ GL f args (stL bs0) v (stL bs1)) (h1:rlOk bs0.length bs1.length bs.length bs'.length rl=true) (h2:T.idsL bs0.length args=true) (h3:v.ids bs1.length=true) (h4:PreL (atR rl) bs0.length bs rl bs0) (h5:PreL (atR rl) bs1.length bs' rl bs1) (h6:zsj rl 0 bs bs') (ea:T.renL (atR rl) args=args') (ev:v.ren (atR rl)=v'):Call P Γ GL f args' (stL bs) v' (stL bs'):=by
  subst ea ev;exact Call.frame k h2 h3 (yhs h1 h4 h5 h6)
end
section
open Go Go.RowKit
noncomputable def lsOf (o:Oper):Option (Nat×Nat):=match o.op with
  |.load _ (.tmp a)=>some (0,a)
  |.store _ (.tmp a) _=>some (1,a)
  |.alloc _=>(match o.dst with|some d=>some (2,d)|none=>none)
  |.box _ _=>(match o.dst with|some d=>some (2,d)|none=>none)
  |.makeSlice _ _ _=>(match o.dst with|some d=>some (2,d)|none=>none)
  |.buildSlice _ _ _=>(match o.dst with|some d=>some (2,d)|none=>none)
  |_=>none
noncomputable def zn0 (a:Nat) (l:List Oper):Bool:=l.all fun o=>match o.dst with|some d=>!(Nat.beq d a)|none=>true
noncomputable def zmt (k a:Nat) (o:Oper) (l:List Oper):Bool:=zn0 a l && (Nat.beq k 2 || zn0 a [o])
noncomputable def z0g:List (Nat×Option Nat)→Nat→Option (Option Nat)
  |[],_=>none
  |(a,b) :: l,x=>bif Nat.beq a x then some b else z0g l x
noncomputable def zrh (bx:List (Nat×Option Nat)) (o:Oper) (l:List Oper):Option (Nat×Option Nat):=match lsOf o with
  |some (w,a)=>bif zmt w a o l then (match z0g bx a with|some b=>some (w,b)|none=>none) else none
  |none=>none
noncomputable def tagS (bx:List (Nat×Option Nat)):Nat→List Oper→List (Bool×Oper×Option (Nat×Option Nat))
  |_,[]=>[]
  |0,o :: l=>(true,o,zrh bx o l) :: tagS bx 0 l
  |k+1,o :: l=>(false,o,zrh bx o l) :: tagS bx k l
noncomputable def z72:Option Nat→Option Nat→Bool
  |some a,some b=>!(Nat.beq a b)
  |none,none=>false
  |_,_=>true
noncomputable def z5h (p q:Option (Nat×Option Nat)):Bool:=match p,q with
  |some (w1,b1),some (w2,b2)=>Nat.ble w2 1 && ((Nat.beq w1 0 && Nat.beq w2 0) || z72 b1 b2)
  |_,_=>false
noncomputable def zk3 (Γ:Env) (o:Oper):Bool:=match o.op with
  |.call ⟨.builtin .len,_,ts⟩=>(match ts.toList with | [t]=>(match Γ.ti.at t with|some i=>(match i.desc with|.slice _=>true|.string=>true|_=>false)|none=>false)|_=>false)
  |.call ⟨.builtin .min,_,_⟩=>true
  |.call ⟨.builtin .max,_,_⟩=>true
  |_=>false
noncomputable def z27 (Γ:Env) (x y:Bool×Oper×Option (Nat×Option Nat)):Bool:=y.1 && !(zht x.2.1.op || (zh2 y.2.1.op || (zk3 Γ x.2.1 || (zk3 Γ y.2.1 || z5h x.2.2 y.2.2))))
noncomputable def zry (Γ:Env) (k:Nat) (bx:List (Nat×Option Nat)) (ops:List Oper):Bool:=zim ops.length ops && zfk (z27 Γ) [] (tagS bx k ops) (zc9 ops [])
def adr1 (S:TS):T→Option Nat→Prop
  |.ptr b _ N,some c=>b=c∧S.has b N=true
  |.cp _,none=>True
  |.arr b _ _ _ _ N,some c=>b=c∧S.has b N=true
  |_,_=>False
def zuq (bx:List (Nat×Option Nat)) (h:Nat→T) (S:TS):Prop:=match bx with
  |[]=>True
  |(a,b) :: l=>adr1 S (h a) b∧zuq l h S
theorem zld {bx:List (Nat×Option Nat)}:∀ {k:Nat} {ops:List Oper} {i:Nat} {o:Oper},ops[i]?=some o→(tagS bx k ops)[i]?=some (decide (k≤i),o,zrh bx o (ops.drop (i+1)))
  |_,[],i,o,h=>by simp at h
  |0,x :: l,i,o,h=>by
    cases i with
    |zero=>simp only [List.getElem?_cons_zero,Option.some.injEq] at h;subst h;rfl
    |succ i =>
      have:=zld (bx:=bx) (k:=0) (ops:=l) (i:=i) (by simpa using h)
      simpa [tagS] using this
  |k+1,x :: l,i,o,h=>by
    cases i with
    |zero=>simp only [List.getElem?_cons_zero,Option.some.injEq] at h;subst h;rfl
    |succ i =>
      have:=zld (bx:=bx) (k:=k) (ops:=l) (i:=i) (by simpa using h);simpa [tagS] using this
theorem zyy {Γ:Env} {k:Nat} {bx:List (Nat×Option Nat)} {ops:List Oper} (hd:zry Γ k bx ops=true) {i j:Nat} {x y:Oper} (hij:i<j) (hkj:k≤j) (hx:ops[i]?=some x) (hy:ops[j]?=some y):Nat.testBit (nth 0 (zc9 ops []) j) i=true∨zht x.op=true∨zh2 y.op=true∨zk3 Γ x=true∨zk3 Γ y=true∨z5h (zrh bx x (ops.drop (i+1))) (zrh bx y (ops.drop (j+1)))=true:=by
  unfold zry at hd;simp only [Bool.and_eq_true] at hd;rcases zfb hd.2 i j _ _ hij (Nat.zero_le _) (by simpa using zld hx) (by simpa using zld hy) with q|q
  · exact .inl q
  · unfold z27 at q;rw [decide_eq_true hkj] at q;simp only [Bool.true_and,Bool.not_eq_false',Bool.or_eq_true] at q;exact .inr q
theorem ycl {bx:List (Nat×Option Nat)} {x y:Oper} {l m:List Oper} (h:z5h (zrh bx x l) (zrh bx y m)=true):∃ w1 a1 b1 w2 a2 b2,lsOf x=some (w1,a1)∧zmt w1 a1 x l=true∧z0g bx a1=some b1∧lsOf y=some (w2,a2)∧zmt w2 a2 y m=true∧z0g bx a2=some b2∧w2≤1∧((w1=0∧w2=0)∨z72 b1 b2=true):=by
  have key:∀ {o:Oper} {l:List Oper} {w b},zrh bx o l=some (w,b)→∃ a,lsOf o=some (w,a)∧zmt w a o l=true∧z0g bx a=some b:=by
    intro o l w b h;unfold zrh at h;split at h
    · rename_i w' a' h1
      cases h2:zmt w' a' o l with
      |false=>rw [h2] at h;simp at h
      |true =>
        rw [h2,cond_true] at h;split at h
        · rename_i b' h3;cases h;exact ⟨a',h1,h2,h3⟩
        · simp at h
    · simp at h
  cases h1:zrh bx x l with
  |none=>rw [h1] at h;simp [z5h] at h
  |some p =>
    cases h2:zrh bx y m with
    |none=>rw [h1,h2] at h;simp [z5h] at h
    |some q =>
      obtain ⟨w1,b1⟩:=p;obtain ⟨w2,b2⟩:=q;rw [h1,h2] at h;obtain ⟨a1,c1,c2,c3⟩:=key h1;obtain ⟨a2,d1,d2,d3⟩:=key h2;simp only [z5h,Bool.or_eq_true,Bool.and_eq_true] at h;refine ⟨w1,a1,b1,w2,a2,b2,c1,c2,c3,d1,d2,d3,za2.1 h.1,?_⟩;rcases h.2 with q|q
      · exact .inl ⟨Nat.eq_of_beq_eq_true q.1,Nat.eq_of_beq_eq_true q.2⟩
      · exact .inr q
theorem zwl {h:Nat→T} {S:TS}:∀ {bx:List (Nat×Option Nat)} {a:Nat} {b:Option Nat},zuq bx h S→z0g bx a=some b→adr1 S (h a) b
  |(a',b') :: l,a,b,k,e=>by
    unfold z0g at e
    cases hb:Nat.beq a' a with
    |true =>
      rw [hb,cond_true] at e;cases e;rw [← Nat.eq_of_beq_eq_true hb];exact k.1
    |false =>
      rw [hb,cond_false] at e;exact zwl k.2 e
section
variable {GL:List (Nat×List Value)} {A A' A0:Nat→Prop} {β β':Bx} {S S':TS} {s s0 s' s2:CS} {P:Program} {Γ:Env} {N:Nat} {h h':Nat→T} {call:zdd}
def IsAd (v:Value) (ad:Addr):Prop:=v=.pointer (some ad)∨∃ n c,v=.slice (some ad) n c
def z5y (fr:Fr) (w:Nat) (a:Nat) (x:Lg):Prop:=(x.rd=[]∧x.wr=[]∧x.lo=x.hi)∨∃ ad,IsAd (fr.get a) ad∧(∀ y,y∈x.rd→y=ad.block)∧(∀ y,y∈x.wr→y=ad.block)∧(x.lo=x.hi∨(x.hi=x.lo+1∧x.lo=ad.block))∧(w=0→x.wr=[])∧(w≤1→x.lo=x.hi)
theorem z3p {fr:Fr} {d:Option Tmp} {v:Value} {a:Nat} (h5:fr.nt≤512) (hd:(match d with|some d=>!(Nat.beq d a)|none=>true)=true):(putC fr d v).get a=fr.get a:=by
  cases d with
  |none=>rfl
  |some d =>
    refine Fr.get_put_other v h5 fun e=>?_;subst e;simp at hd
theorem zpv {ops:List Oper} {a:Nat}:∀ {l:List Oper} {fr fr':Fr} {s s':CS} {L:List Lg},drawC P Γ call ops l fr s=some (L,fr',s')→fr.nt≤512→zn0 a l=true→fr'.get a=fr.get a
  |[],fr,fr',s,s',L,hc,_,_=>by
    simp only [drawC,Option.some.injEq,Prod.mk.injEq] at hc;rw [hc.2.1]
  |o :: l,fr,fr',s,s',L,hc,h5,hn=>by
    simp only [drawC] at hc;unfold zn0 at hn;rw [List.all_cons,Bool.and_eq_true] at hn;split at hc
    · rename_i fr1 t h1;split at hc
      · rename_i logs fr2 s2 h2;cases hc
        have e:∃ v,fr1=putC fr o.dst v:=by
          unfold zcc at h1
          cases hw:zc4 ops fr o with
          |false =>
            rw [hw] at h1;simp only [cond_false,Option.some.injEq,Prod.mk.injEq] at h1;exact ⟨_,h1.1.symm⟩
          |true =>
            rw [hw,cond_true] at h1;split at h1
            · cases h1;exact ⟨_,rfl⟩
            · simp at h1
        obtain ⟨v,rfl⟩:=e;rw [zpv h2 (by rw [zve];exact h5) hn.2];exact z3p h5 hn.1
      · simp at hc
    · simp at hc
theorem z81 {lim n y:Nat} (h:y∈ins lim [] n):y=n:=by
  unfold ins at h
  cases hb:Nat.blt n lim with
  |false=>rw [hb] at h;simp at h
  |true =>
    rw [hb] at h;have:has ([]:List Nat) n=false:=rfl;rw [cond_true,this,cond_false] at h;simpa using h
theorem z8c {s s1:CS} {tag:Nat} {cs:List Value} {a:Addr} (h:s.newRow tag cs=some (a,s1)):s1.rd=s.rd∧s1.wr=s.wr∧s1.n=s.n+1∧a.block=s.n:=by
  unfold CS.newRow at h;generalize (zih s.obj s.n:Bool)=b at h
  cases b with
  |true=>cases h;exact ⟨rfl,rfl,rfl,rfl⟩
  |false=>cases h
theorem z7r {s s1:CS} {tag:Nat} {cs:List Value} {v:Value} (h:ptrC (s.inner.newRow tag cs)=some (v,s1)):s1.rd=[]∧s1.wr=[]∧s1.n=s.n+1∧∃ ad,IsAd v ad∧ad.block=s.n:=by
  unfold ptrC at h;split at h
  · rename_i x hx;cases h;obtain ⟨a,t⟩:=x;obtain ⟨h1,h2,h3,h4⟩:=z8c hx;exact ⟨h1,h2,h3,a,.inl rfl,h4⟩
  · simp at h
theorem zwz {s s1:CS} {tag l c:Nat} {cs:List Value} {v:Value} (h:zgw l c (s.inner.newRow tag cs)=some (v,s1)):s1.rd=[]∧s1.wr=[]∧s1.n=s.n+1∧∃ ad,IsAd v ad∧ad.block=s.n:=by
  unfold zgw at h;split at h
  · rename_i x hx;cases h;obtain ⟨a,t⟩:=x;obtain ⟨h1,h2,h3,h4⟩:=z8c hx;exact ⟨h1,h2,h3,a,.inr ⟨_,_,rfl⟩,h4⟩
  · simp at h
theorem yjl {o:Oper} {fr:Fr} {s s1:CS} {v:Value} {w:Nat} {a:Nat} (ho:lsOf o=some (w,a)) (hc:cop P Γ call (zfy fr) o s.inner=some (v,s1)):(w≤1∧s1.n=s.n∧∃ ad,fr.get a=.pointer (some ad)∧(w=0→s1.wr=[])∧(∀ y,y∈s1.rd→y=ad.block)∧(∀ y,y∈s1.wr→y=ad.block))∨(w=2∧o.dst=some a∧s1.rd=[]∧s1.wr=[]∧s1.n=s.n+1∧∃ ad,IsAd v ad∧ad.block=s.n):=by
  unfold lsOf at ho;split at ho
  · rename_i t a' hop;cases ho;unfold cop at hc;rw [hop] at hc;simp only [zfy] at hc;unfold zl0 at hc;split at hc
    · rename_i ad had;split at hc
      · rename_i i hi;unfold CS.loadVar at hc;split at hc
        · rename_i cs s3 hr;split at hc
          · cases hc;unfold CS.readRow at hr;split at hr
            · cases hr;exact .inl ⟨by omega,rfl,ad,had,fun _=>rfl,fun y hy=>z81 hy,fun y hy=>by cases hy⟩
            · simp at hr
          · simp at hc
        · simp at hc
      · simp at hc
    · simp at hc
  · rename_i t a' vv hop;cases ho;unfold cop at hc;rw [hop] at hc;change zi1 Γ s.inner t (zfy fr vv).cells.toList (fr.get a)=_ at hc;generalize (zfy fr vv).cells.toList=vs at hc;unfold zi1 at hc;split at hc
    · rename_i ad had;split at hc
      · rename_i i hi
        cases hb:Nat.beq vs.length i.size with
        |false=>rw [hb] at hc;simp at hc
        |true =>
          rw [hb,cond_true] at hc;unfold zrz at hc;split at hc
          · rename_i s2 hw;cases hc;unfold CS.write at hw;split at hw
            · generalize ((Nat.ble _ _ && vs.all oneC):Bool)=bb at hw
              cases bb with
              |true =>
                cases hw;exact .inl ⟨by omega,rfl,ad,had,fun e=>(by cases e),fun y hy=>(by cases hy),fun y hy=>z81 hy⟩
              |false=>cases hw
            · simp at hw
          · simp at hc
      · simp at hc
    · simp at hc
  · rename_i e hop;split at ho
    · rename_i d hd;cases ho;refine .inr ⟨rfl,hd,?_⟩;unfold cop at hc;rw [hop] at hc;simp only at hc;unfold zi3 at hc;split at hc
      · exact z7r hc
      · simp at hc
    · simp at ho
  · rename_i e x hop;split at ho
    · rename_i d hd;cases ho;refine .inr ⟨rfl,hd,?_⟩;unfold cop at hc;rw [hop] at hc;exact z7r hc
    · simp at ho
  · rename_i e l c hop;split at ho
    · rename_i d hd;cases ho;refine .inr ⟨rfl,hd,?_⟩;unfold cop at hc;rw [hop] at hc;simp only at hc;unfold zel at hc;split at hc
      · rename_i j l' c' _ _ _
        cases hb:(Nat.ble l' c' && Nat.ble (c'*(j.bytes+1)) 1000000000 && Nat.blt 0 j.size) with
        |false=>rw [hb] at hc;simp at hc
        |true =>
          rw [hb,cond_true] at hc;exact zwz hc
      · simp at hc
    · simp at ho
  · rename_i e n parts hop;split at ho
    · rename_i d hd;cases ho;refine .inr ⟨rfl,hd,?_⟩;unfold cop at hc;rw [hop] at hc;simp only at hc;unfold zb5 at hc;split at hc
      · rename_i j _
        cases hb:(Nat.ble (n*j.size) 16777216 && Nat.blt 0 j.size) with
        |false=>rw [hb] at hc;simp at hc
        |true =>
          rw [hb,cond_true] at hc;split at hc
          · exact zwz hc
          · simp at hc
      · simp at hc
    · simp at ho
  · simp at ho
theorem zrx {ops:List Oper}:∀ {l:List Oper} {fr fr':Fr} {s s':CS} {L:List Lg},drawC P Γ call ops l fr s=some (L,fr',s')→fr.nt≤512→zfj fr.nt l=true→∀ (j:Nat) (o:Oper) (x:Lg) (w:Nat) (a:Nat),l[j]?=some o→L[j]?=some x→lsOf o=some (w,a)→zmt w a o (l.drop (j+1))=true→z5y fr' w a x
  |[],fr,fr',s,s',L,hc,_,_,j,o,x,w,a,hj,_,_,_=>by simp at hj
  |o :: l,fr,fr',s,s',L,hc,h5,hdo,j,o',x,w,a,hj,hx,ho,hn=>by
    have hc0:=hc;simp only [drawC] at hc;split at hc
    · rename_i fr1 t h1;split at hc
      · rename_i logs fr2 s2 h2;cases hc
        have hfr:∃ v,fr1=putC fr o.dst v:=by
          unfold zcc at h1
          cases hw:zc4 ops fr o with
          |false =>
            rw [hw] at h1;simp only [cond_false,Option.some.injEq,Prod.mk.injEq] at h1;exact ⟨_,h1.1.symm⟩
          |true =>
            rw [hw,cond_true] at h1;split at h1
            · cases h1;exact ⟨_,rfl⟩
            · simp at h1
        have hnt:fr1.nt=fr.nt:=by obtain ⟨v,rfl⟩:=hfr;exact zve _ _ _
        unfold zfj at hdo;rw [List.all_cons,Bool.and_eq_true] at hdo
        cases j with
        |zero =>
          simp only [List.getElem?_cons_zero,Option.some.injEq] at hj hx;subst hj;subst hx;unfold zmt at hn;simp only [Bool.and_eq_true,Bool.or_eq_true] at hn;obtain ⟨hn1,hn2⟩:=hn;have hg1:=zpv h2 (by rw [hnt];exact h5) (show zn0 a l=true by simpa using hn1);unfold zcc at h1
          cases hw:zc4 ops fr o with
          |false =>
            rw [hw] at h1;simp only [cond_false,Option.some.injEq,Prod.mk.injEq] at h1;rw [← h1.2];exact .inl ⟨rfl,rfl,rfl⟩
          |true =>
            rw [hw,cond_true] at h1;split at h1
            · rename_i v s1 hcop;cases h1;rcases yjl ho hcop with ⟨q0,q1,ad,q2,q3,q4,q5⟩|⟨q0,q1,q2,q3,q4,ad,q5,q6⟩
              · have hn3:zn0 a [o]=true:=by
                  rcases hn2 with q|q
                  · have:=Nat.eq_of_beq_eq_true q;omega
                  · exact q
                have e:(putC fr o.dst v).get a=fr.get a:=z3p h5 (by unfold zn0 at hn3;rw [List.all_cons,Bool.and_eq_true] at hn3;exact hn3.1);refine .inr ⟨ad,.inl (by rw [hg1,e];exact q2),q4,q5,.inl q1.symm,q3,fun _=>q1.symm⟩
              · subst q0
                have e:(putC fr o.dst v).get a=v:=by
                  rw [q1];refine Fr.get_put_same v ?_ h5;have:=hdo.1;rw [q1] at this;exact zac.1 this
                refine .inr ⟨ad,by rw [hg1,e];exact q5,fun y hy=>?_,fun y hy=>?_,.inr ⟨q4,q6.symm⟩,fun h=>(by cases h),fun h=>by omega⟩
                · simp only [q2] at hy;cases hy
                · simp only [q3] at hy;cases hy
            · simp at h1
        |succ j=>exact zrx h2 (by rw [hnt];exact h5) (by rw [hnt];exact hdo.2) j o' x w a (by simpa using hj) (by simpa using hx) ho (by simpa using hn)
      · simp at hc
    · simp at hc
theorem yho {o:Oper} {ρ:Operand→Value} {s s1:CS} {v:Value} (hm:zk3 Γ o=true) (hc:cop P Γ call ρ o s=some (v,s1)):s1=s:=by
  unfold zk3 at hm;split at hm
  · rename_i args ts hop;unfold cop at hc;rw [hop] at hc;simp only at hc;unfold ze8 at hc;simp only at hc;split at hc
    · rename_i x t _ hts;rw [hts] at hm;simp only at hm;unfold zkd at hc;split at hc
      · rename_i i hi;rw [hi] at hm;simp only at hm;split at hc
        · cases hc;rfl
        · cases hc;rfl
        · cases hc;rfl
        · cases hc;rfl
        · rename_i hd _;rw [hd] at hm;simp at hm
        · simp at hc
      · simp at hc
    · simp at hc
  · rename_i args ts hop;unfold cop at hc;rw [hop] at hc;exact zjb hc
  · rename_i args ts hop;unfold cop at hc;rw [hop] at hc;exact zjb hc
  · simp at hm
theorem zk6 {ops:List Oper}:∀ {l:List Oper} {fr fr':Fr} {s s':CS} {L:List Lg},drawC P Γ call ops l fr s=some (L,fr',s')→∀ (j:Nat) (o:Oper) (x:Lg),l[j]?=some o→L[j]?=some x→zk3 Γ o=true→x.rd=[]∧x.wr=[]∧x.lo=x.hi
  |[],fr,fr',s,s',L,hc,j,o,x,hj,_,_=>by simp at hj
  |o :: l,fr,fr',s,s',L,hc,j,o',x,hj,hx,hm=>by
    simp only [drawC] at hc;split at hc
    · rename_i fr1 t h1;split at hc
      · rename_i logs fr2 s2 h2;cases hc
        cases j with
        |zero =>
          simp only [List.getElem?_cons_zero,Option.some.injEq] at hj hx;subst hj;subst hx;unfold zcc at h1
          cases hw:zc4 ops fr o with
          |false =>
            rw [hw] at h1;simp only [cond_false,Option.some.injEq,Prod.mk.injEq] at h1;rw [← h1.2];exact ⟨rfl,rfl,rfl⟩
          |true =>
            rw [hw,cond_true] at h1;split at h1
            · rename_i v s1 hcop;cases h1;rw [yho hm hcop];exact ⟨rfl,rfl,rfl⟩
            · simp at h1
        |succ j=>exact zk6 h2 j o' x (by simpa using hj) (by simpa using hx) hm
      · simp at hc
    · simp at hc
def FamOf (A:Nat→Prop) (β:Bx) (f:Nat):Option Nat→Prop
  |some b=>∃ u N',β b=some (.live f u N')
  |none=>A f
theorem zwk {S:TS} {s:CS} {fr:Fr} (hF:FrOk A β (zaa s.obj) N h fr) (hT:TRel GL A β S s) {a:Nat} {b:Option Nat} (k:adr1 S (h a) b) {ad:Addr} (e:IsAd (fr.get a) ad):FamOf A β ad.block b:=by
  have hv:=hF.slot a;generalize fr.get a=v at hv e;generalize h a=t at hv k
  cases b with
  |none =>
    cases t with
    |cp l=>cases hv with|cp q1 q2 q3=>(rcases e with e|⟨n,c,e⟩<;>cases e);exact q1
    |_=>exact k.elim
  |some c =>
    cases t with
    |ptr b' off N' =>
      obtain ⟨rfl,k2⟩:=k;obtain ⟨z,l,hS⟩:=TS.has_ok k2;obtain ⟨f,u,q1,q2⟩:=zii hT hS hv;subst q1;rcases e with e|⟨n,c,e⟩<;>cases e;exact ⟨u,N',q2⟩
    |arr b' e' off len cap N' =>
      obtain ⟨rfl,k2⟩:=k;obtain ⟨z,l,hS⟩:=TS.has_ok k2;rcases zf0 hT hS hv with ⟨f,u,q1,q2,_⟩|⟨q1,_⟩
      · subst q1;rcases e with e|⟨n,c,e⟩<;>cases e;exact ⟨u,N',q2⟩
      · subst q1
        rcases e with e|⟨n,c,e⟩<;>cases e
    |_=>exact k.elim
theorem yhi {S:TS} {s:CS} {fr:Fr} (hF:FrOk A β (zaa s.obj) N h fr) (hT:TRel GL A β S s) {a1 a2:Nat} {b1 b2:Option Nat} {w1 w2:Nat} {x y:Lg} (k1:adr1 S (h a1) b1) (k2:adr1 S (h a2) b2) (hw:w2≤1) (hne:(w1=0∧w2=0)∨z72 b1 b2=true) (z1:z5y fr w1 a1 x) (z2:z5y fr w2 a2 y):clash x y=false:=by
  obtain ⟨rx,wx,lo,hi⟩:=x;obtain ⟨ry,wy,lo',hi'⟩:=y;simp only [z5y] at z1 z2;rcases z1 with ⟨p1,p2,p3⟩|⟨ad1,p1,p2,p3,p4,p5,p6⟩
  · exact zg6 p1 p2 p3
  rcases z2 with ⟨q1,q2,_⟩|⟨ad2,q1,q2,q3,q4,q5,q6⟩
  · exact zfz q1 q2
  have g1:=zwk hF hT k1 p1;have g2:=zwk hF hT k2 q1;rcases hne with ⟨rfl,rfl⟩|hne
  · have e1:=p5 rfl;have e2:=q5 rfl;have e3:=p6 (by omega);subst e1;subst e2;subst e3;exact zfv (fun f hf=>by cases hf) (fun f _=>by simp) (fun f _=>by omega) (fun f hf=>by cases hf)
  · have hb:ad1.block≠ad2.block:=by
      intro hb
      cases b1 with
      |none =>
        cases b2 with
        |none=>simp [z72] at hne
        |some b2 =>
          obtain ⟨u,M,g2⟩:=g2;exact (hT.dis ad2.block ⟨b2,.inl ⟨u,M,g2⟩⟩).2 (hb ▸ g1)
      |some b1 =>
        obtain ⟨u1,M1,g1⟩:=g1
        cases b2 with
        |none=>exact (hT.dis ad1.block ⟨b1,.inl ⟨u1,M1,g1⟩⟩).2 (hb ▸ g2)
        |some b2 =>
          obtain ⟨u2,M2,g2⟩:=g2;have:=hT.inj b1 b2 _ _ ad1.block g1 g2 rfl (by rw [hb];rfl);subst this;simp [z72] at hne
    refine zfv (fun f hf=>⟨fun hf2=>?_,fun hf2=>?_⟩) (fun f hf hf2=>?_) (fun f hf=>?_) (fun f hf=>?_)
    · exact hb ((p3 f hf).symm.trans (q2 f hf2))
    · exact hb ((p3 f hf).symm.trans (q3 f hf2))
    · exact hb ((p2 f hf).symm.trans (q3 f hf2))
    · have:=q2 f hf;rcases p4 with p4|⟨p4,p7⟩<;>omega
    · have:=q3 f hf;rcases p4 with p4|⟨p4,p7⟩<;>omega
theorem TW.drawS (hE:zc3 P Γ) {id:Nat} {ops:Array Oper} {Q:Exit→(Nat→T)→TS→Prop} (k:Nat) (bx:List (Nat×Option Nat)) (outsP:List T) (own:List Nat) (outs:List (T×TS)) {h1:Nat→T} {ob1 ob2:Prop} (hd:zfj N ops.toList=true) (hoS:zry Γ k bx ops.toList=true)
    (hp:runP P Γ GL ops.toList (ops.toList.take k) h S outsP=some (ob1,h1)) (hob1:ob1) (hr:runT P Γ GL own ops.toList (ops.toList.drop k) h1 S outs=some (ob2,h',S')) (hob2:ob2) (hbx:zuq bx h' S') (hq:Q .normal h' S'):TW P Γ GL N (.region id ops true) h S Q:=fun A β fr s hF hT=>by
  have hok:zim ops.toList.length ops.toList=true:=by
    unfold zry at hoS;simp only [Bool.and_eq_true] at hoS;exact hoS.1
  have hsplit:ops.toList=ops.toList.take k++ops.toList.drop k:=(List.take_append_drop k _).symm
  have hdd:zfj N (ops.toList.take k)=true∧zfj N (ops.toList.drop k)=true:=by
    unfold zfj at hd ⊢;rw [hsplit,List.all_append,Bool.and_eq_true] at hd;exact hd
  have I0:znp GL ops.toList A β S s N [] h fr s:=by
    refine ⟨hF.nt,hF.le,hT,fun t=>⟨0,(hF.slot t).mono (fun f hf=>.inl hf) (fun _ _=>rfl) (Bx.le_refl _),fun j o _ _ _ m hm=>by simp at hm⟩,fun k x hx=>by simp at hx,fun k m x y _ hx=>by simp at hx,fun f hf=>(hT.dis f hf).1,hT.alt,?_,hT.le⟩;exact ⟨Can.refl _,fun _ h=>h,fun _ h=>.inl h,fun _ _=>rfl,fun _ h=>.inl h,fun _ h=>h⟩
  obtain ⟨M1,fr1,s1,d1,I1,m1⟩:=z2k hE hok I0 (fun j o hj=>by
    rw [List.length_nil,Nat.zero_add];rw [List.getElem?_take] at hj;split at hj
    · exact hj
    · simp at hj) hdd.1 hp hob1
  rw [List.nil_append] at I1
  -- behind the first part all may lean on all
  let D:Nat:=2 ^ M1.length - 1
  have hDall:∀ m,m<M1.length→Nat.testBit D m=true:=fun m hm=>by
    show Nat.testBit (2 ^ M1.length - 1) m=true;rw [Nat.testBit_two_pow_sub_one];exact decide_eq_true hm
  have hT1:TRel GL (SupL A M1 D) β S s1:=by
    refine I1.rel.more _ (fun f hf=>.inl hf) (fun f hf=>?_) (fun f hf ho=>?_)
    · rcases hf with q|⟨m,x,_,q2,_,q4⟩
      · exact I1.rel.alt f q
      · have:=(I1.log m x q2).2.2.1;omega
    · rcases hf with q|⟨m,x,_,q2,q3,q4⟩
      · exact (I1.rel.dis f ho).2 q
      · have:=(I1.log m x q2).1;have:=I1.own f ho;omega
  have hF1:FrOk (SupL A M1 D) β (zaa s1.obj) N h1 fr1:=⟨I1.nt,I1.le,fun t=>by
    obtain ⟨E,e1,_⟩:=I1.slot t
    exact e1.mono (fun f hf=>SupL.sub (fun m hm _=>hDall m hm) hf) (fun _ _=>rfl) (Bx.le_refl _)⟩
  have hS1:Stp A β s (SupL A M1 D) β s1:=by
    refine ⟨I1.calm.can,fun f hf=>.inl hf,fun f hf=>?_,fun f hf=>.inl hf,fun f hf _=>I1.calm.keep f hf,Bx.le_refl _,I1.calm.rd,fun x hx=>.inl (I1.calm.wr x hx)⟩;rcases hf with q|⟨m,x,_,q2,q3,_⟩
    · exact .inl q
    · have:=(I1.log m x q2).1;exact .inr (.inl (by omega))
  obtain ⟨M2,fr2,s2,d2,L2⟩:=zvf hE hdd.2 hF1 hT1 hr hob2;have hdraw:=zit d1 d2;rw [← hsplit] at hdraw;obtain ⟨f1,f2⟩:=zpw hdraw;have L2':=L2;obtain ⟨A2,β2,hF2,hT2,_⟩:=L2';refine W.draw hdraw ?_ ⟨h',S',Left.trans (h':=h) (fr':=fr) hT.le hS1 L2,hq⟩;refine zwf rfl (zlr fun i j x y hij _ hx hy=>?_);simp only [List.nil_append] at hx hy;have hjl:j<ops.toList.length:=by rw [← f1];exact (List.getElem?_eq_some_iff.1 hy).1
  have ho1:ops.toList[i]?=some (ops.toList[i]'(by omega)):=List.getElem?_eq_getElem _;have ho2:ops.toList[j]?=some (ops.toList[j]'hjl):=List.getElem?_eq_getElem _;by_cases hkj:k≤j
  · rcases zyy hoS hij hkj ho1 ho2 with q|q|q|q|q|q
    · exact .inl q
    · obtain ⟨a,b,c⟩:=(f2 i _ x ho1 hx).1 q;exact .inr (zg6 a b c)
    · obtain ⟨a,b⟩:=(f2 j _ y ho2 hy).2 q;exact .inr (zfz a b)
    · obtain ⟨a,b,c⟩:=zk6 hdraw i _ x ho1 hx q;exact .inr (zg6 a b c)
    · obtain ⟨a,b,c⟩:=zk6 hdraw j _ y ho2 hy q;exact .inr (zfz a b)
    · obtain ⟨w1,a1,b1,w2,a2,b2,g1,g2,g3,g4,g5,g6,g7,g8⟩:=ycl q;have z1:=zrx hdraw (by rw [hF.nt];exact hF.le) (by rw [hF.nt];exact hd) i _ x w1 a1 ho1 hx g1 g2;have z2:=zrx hdraw (by rw [hF.nt];exact hF.le) (by rw [hF.nt];exact hd) j _ y w2 a2 ho2 hy g4 g5;exact .inr (yhi hF2 hT2 (zwl hbx g3) (zwl hbx g6) g7 g8 z1 z2)
  · have hjM:j<M1.length:=by rw [m1,List.length_take];omega
    rw [List.getElem?_append_left (by omega)] at hx;rw [List.getElem?_append_left hjM] at hy;by_cases hbit:Nat.testBit (nth 0 (zc9 ops.toList []) j) i=true
    · exact .inl hbit
    · right;obtain ⟨x1,x2,x3,x4,x5⟩:=I1.log i x hx;obtain ⟨y1,y2,y3,y4,y5⟩:=I1.log j y hy;obtain ⟨rx,wx,lo,hi⟩:=x;obtain ⟨ry,wy,lo',hi'⟩:=y;simp only at x1 x2 x3 x4 x5 y1 y2 y3 y4 y5;subst x4;subst y4;refine zfv (fun f hf=>by simp at hf) (fun f _=>by simp) (fun f hf=>?_) (fun f hf=>by simp at hf);obtain ⟨g1,g2⟩:=y5 f hf;rcases g2 with (g2|⟨m,z,g3,g4,g5,g6⟩)|g2
      · have:=I1.base f g2;omega
      · by_cases hmi:m=i
        · subst hmi;exact absurd g3 hbit
        · by_cases hlt:m<i
          · have:=I1.apart m i z _ hlt g4 hx;simp only at this;omega
          · have:=I1.apart i m _ z (by omega) hx g4;simp only at this;omega
      · have:=I1.own f g2;omega
end
end
section
open Go Go.RowKit
section
variable {GL:List (Nat×List Value)} {A A' A2:Nat→Prop} {β β' β2:Bx} {S S' S2:TS} {s s' s2:CS} {P:Program} {Γ:Env} {N:Nat} {h h' h2:Nat→T} {Q R:Exit→(Nat→T)→TS→Prop}
theorem z0b (hE:zc3 P Γ) {own:List Nat} {ops:List Oper} {N:Nat}:∀ {l:List Oper} {h h':Nat→T} {S S':TS} {outs:List (T×TS)} {ob:Prop} {A:Nat→Prop} {β:Bx} {fr:Fr} {s:CS},zfj N l=true→FrOk A β (zaa s.obj) N h fr→TRel GL A β S s→runT P Γ GL own ops l h S outs=some (ob,h',S')→ob →
    ∃ M fr' s',drawC P Γ (zd9 P Γ) ops l fr s=some (M,fr',s')∧Left GL A β s N fr' s' h' S'∧∀ x,x∈M→s.n≤x.lo∧∀ f,f∈x.wr→Own β f∨s.n≤f
  |[],h,h',S,S',outs,ob,A,β,fr,s,hd,hF,hT,hr,hob=>by
    simp only [runT,Option.some.injEq,Prod.mk.injEq] at hr;obtain ⟨rfl,rfl,rfl⟩:=hr;exact ⟨[],fr,s,rfl,⟨A,β,hF,hT,Stp.refl⟩,fun x hx=>by simp at hx⟩
  |o :: l,h,h',S,S',outs,ob,A,β,fr,s,hd,hF,hT,hr,hob=>by
    have hd':zfj N l=true∧∀ t,o.dst=some t→t<N:=by
      unfold zfj at hd ⊢;rw [List.all_cons,Bool.and_eq_true] at hd;refine ⟨hd.2,fun t ht=>?_⟩;have:=hd.1;rw [ht] at this;exact zac.1 this
    have hTi:=hT.inner
    have go:∀ {t:T} {S1:TS} {r:Option (Value×CS)} {l':List (T×TS)} {ob':Prop},Ok GL A β s.inner r t S1→(cop P Γ (zd9 P Γ) (zfy fr) o s.inner=r)→zc4 ops fr o=true→runT P Γ GL own ops l (putT h o.dst t) S1 l'=some (ob',h',S')→ob'→∃ M fr' s',drawC P Γ (zd9 P Γ) ops (o :: l) fr s=some (M,fr',s')∧Left GL A β s N fr' s' h' S'∧∀ x,x∈M→s.n≤x.lo∧∀ f,f∈x.wr→Own β f∨s.n≤f:=by
      rintro t S1 r l' ob' ⟨v,s1,A1,β1,rfl,k1,k2,k3⟩ hc hw hrun hob';have hF1:FrOk A1 β1 (zaa s1.obj) N h fr:=hF.mono k3.sub (Stp.old (s:=s.inner) hTi k3) k3.bx;have hS:Stp A β s A1 β1 (s.outer s1):=k3.outer hT.inv;obtain ⟨M,fr',s',e1,e2,e3⟩:=z0b hE hd'.1 (s:=s.outer s1) (hF1.put hd'.2 k2) (k1.outer (Nat.le_trans hT.le k3.can.n)) hrun hob';refine ⟨⟨s1.rd,s1.wr,s.n,s1.n⟩ :: M,fr',s',?_,Left.trans (h':=h) (fr':=fr) hT.le hS e2,fun x hx=>?_⟩;rotate_left
      · rcases List.mem_cons.1 hx with rfl|hx
        · refine ⟨Nat.le_refl _,fun f hf=>?_⟩;rcases k3.wr f hf with q|q
          · exact absurd q (by simp [CS.inner])
          · exact .inl q.2
        · refine ⟨Nat.le_trans hS.can.n (e3 x hx).1,fun f hf=>?_⟩;rcases (e3 x hx).2 f hf with q|q
          · rcases hS.own f q with r|r
            · exact .inl r
            · exact .inr r
          · exact .inr (Nat.le_trans hS.can.n q)
      rw [drawC]
      have:zcc P Γ (zd9 P Γ) ops o fr s.inner=some (putC fr o.dst v,s1):=by
        unfold zcc;rw [hw,cond_true,hc]
      rw [this];simp only;rw [e1]
    unfold runT at hr;split at hr
    · simp at hr
    · rename_i hg;have hw:=zho hF hg;have hS:Stp A β s A β (s.outer s.inner):=Stp.outer hT.inv Stp.refl;obtain ⟨M,fr',s',e1,e2,e3⟩:=z0b hE hd'.1 (s:=s.outer s.inner) (hF.put hd'.2 VT.undf) (hTi.outer hT.le) hr hob;refine ⟨⟨[],[],s.n,s.n⟩ :: M,fr',s',?_,Left.trans (h':=h) (fr':=fr) hT.le hS e2,fun x hx=>?_⟩;rotate_left
      · rcases List.mem_cons.1 hx with rfl|hx
        · exact ⟨Nat.le_refl _,fun f hf=>by simp at hf⟩
        · exact e3 x hx
      rw [drawC]
      have:zcc P Γ (zd9 P Γ) ops o fr s.inner=some (putC fr o.dst undef,s.inner):=by
        unfold zcc;rw [hw,cond_false]
      rw [this];simp only;rw [e1];rfl
    · rename_i hg;have hw:=zho hF hg;split at hr
      · rename_i f args tys ho;split at hr
        · rename_i r outs';split at hr
          · rename_i p hp;unfold zwh at hp;split at hp
            · rename_i k first cap hf
              simp only [Option.some.injEq] at hp;subst hp
              cases hrun:runT P Γ GL own ops l (putT h o.dst r.1) r.2 outs' with
              |none=>rw [hrun] at hr;simp [andT] at hr
              |some q =>
                obtain ⟨q1,q2,q3⟩:=q;rw [hrun] at hr;simp only [andT,Option.some.injEq,Prod.mk.injEq] at hr;obtain ⟨rfl,rfl,rfl⟩:=hr;have hfv:=hF.eval hT f;rw [hf] at hfv;generalize e1:zfy fr f=vf at hfv
                cases hfv with
                |fn h1 h2 =>
                  rename_i va vc;have hargs:=zr9 (hF.eval hT) args.toList;have hcall:=hob.1 A β s.inner _ hTi ((h1.append hargs).append h2);refine go hcall ?_ hw hrun hob.2;unfold cop;simp only [ho,e1];unfold zj7;rfl
            · simp at hp
          · simp at hr
        · simp at hr
      · split at hr
        · rename_i t S1 hst;exact go (zu2 hE hTi (hF.eval hT) hst) rfl hw hr hob
        · simp at hr
def isCp:T→Prop
  |.cp _=>True
  |_=>False
def yid (h:Nat→T):List Nat→Prop
  |[]=>True
  |a :: l=>isCp (h a)∧yid h l
theorem zr2 {h:Nat→T} {a:Nat}:∀ {l:List Nat},yid h l→a∈l→∃ m,h a=.cp m
  |[],_,ha=>by simp at ha
  |b :: l,k,ha=>by
    rcases List.mem_cons.1 ha with rfl|ha
    · have:=k.1;unfold isCp at this;split at this
      · next m e=>exact ⟨m,e⟩
      · exact this.elim
    · exact zr2 k.2 ha
noncomputable def z37 (cs:List Nat) (all:List Oper) (o:Oper):Bool:=match lsOf o with
  |some (0,a)=>cs.any (Nat.beq a) && zn0 a all
  |_=>false
noncomputable def z28 (Γ:Env) (cs:List Nat) (all:List Oper) (x y:Bool×Oper×Option (Nat×Option Nat)):Bool:=y.1 && !(zht x.2.1.op || (zh2 y.2.1.op || (zk3 Γ x.2.1 || (zk3 Γ y.2.1 || (z37 cs all x.2.1 || z37 cs all y.2.1)))))
noncomputable def zv6 (Γ:Env) (k:Nat) (cs:List Nat) (ops:List Oper):Bool:=zim ops.length ops && zfk (z28 Γ cs ops) [] (tagS [] k ops) (zc9 ops [])
theorem zui {cs:List Nat} {all:List Oper} {o:Oper} (h:z37 cs all o=true):∃ a,lsOf o=some (0,a)∧a∈cs∧zn0 a all=true:=by
  unfold z37 at h;split at h
  · next a e =>
    rw [Bool.and_eq_true] at h;obtain ⟨b,hb,hab⟩:=List.any_eq_true.1 h.1;have:a=b:=Nat.eq_of_beq_eq_true hab;subst this;exact ⟨a,e,hb,h.2⟩
  · simp at h
theorem zwy {a:Nat} {all:List Oper} {i:Nat} {o:Oper} (h:zn0 a all=true) (ho:all[i]?=some o):zmt 0 a o (all.drop (i+1))=true:=by
  unfold zmt;unfold zn0 at h ⊢;rw [List.all_eq_true] at h;rw [Bool.and_eq_true,Bool.or_eq_true];refine ⟨List.all_eq_true.2 fun x hx=>h x (List.mem_of_mem_drop hx),.inr ?_⟩;rw [List.all_cons,List.all_nil,Bool.and_true];exact h o (List.mem_of_getElem? ho)
theorem zyz {Γ:Env} {k:Nat} {cs:List Nat} {ops:List Oper} (hd:zv6 Γ k cs ops=true) {i j:Nat} {x y:Oper} (hij:i<j) (hkj:k≤j) (hx:ops[i]?=some x) (hy:ops[j]?=some y):Nat.testBit (nth 0 (zc9 ops []) j) i=true∨zht x.op=true∨zh2 y.op=true∨zk3 Γ x=true∨zk3 Γ y=true∨(∃ a,lsOf x=some (0,a)∧a∈cs∧zn0 a ops=true)∨(∃ a,lsOf y=some (0,a)∧a∈cs∧zn0 a ops=true):=by
  unfold zv6 at hd;simp only [Bool.and_eq_true] at hd;rcases zfb hd.2 i j _ _ hij (Nat.zero_le _) (by simpa using zld hx) (by simpa using zld hy) with q|q
  · exact .inl q
  · unfold z28 at q;rw [decide_eq_true hkj] at q;simp only [Bool.true_and,Bool.not_eq_false',Bool.or_eq_true] at q;rcases q with q|q|q|q|q|q
    · exact .inr (.inl q)
    · exact .inr (.inr (.inl q))
    · exact .inr (.inr (.inr (.inl q)))
    · exact .inr (.inr (.inr (.inr (.inl q))))
    · exact .inr (.inr (.inr (.inr (.inr (.inl (zui q))))))
    · exact .inr (.inr (.inr (.inr (.inr (.inr (zui q))))))
theorem TW.drawC (hE:zc3 P Γ) {id:Nat} {ops:Array Oper} {Q:Exit→(Nat→T)→TS→Prop} (k:Nat) (cs:List Nat) (outsP:List T) (own:List Nat) (outs:List (T×TS)) {h1:Nat→T} {ob1 ob2:Prop} (hd:zfj N ops.toList=true) (hoS:zv6 Γ k cs ops.toList=true)
    (hp:runP P Γ GL ops.toList (ops.toList.take k) h S outsP=some (ob1,h1)) (hob1:ob1) (hr:runT P Γ GL own ops.toList (ops.toList.drop k) h1 S outs=some (ob2,h',S')) (hob2:ob2) (hcs:yid h cs) (hq:Q .normal h' S'):TW P Γ GL N (.region id ops true) h S Q:=fun A β fr s hF hT=>by
  have hok:zim ops.toList.length ops.toList=true:=by
    unfold zv6 at hoS;simp only [Bool.and_eq_true] at hoS;exact hoS.1
  have hsplit:ops.toList=ops.toList.take k++ops.toList.drop k:=(List.take_append_drop k _).symm
  have hdd:zfj N (ops.toList.take k)=true∧zfj N (ops.toList.drop k)=true:=by
    unfold zfj at hd ⊢;rw [hsplit,List.all_append,Bool.and_eq_true] at hd;exact hd
  have I0:znp GL ops.toList A β S s N [] h fr s:=by
    refine ⟨hF.nt,hF.le,hT,fun t=>⟨0,(hF.slot t).mono (fun f hf=>.inl hf) (fun _ _=>rfl) (Bx.le_refl _),fun j o _ _ _ m hm=>by simp at hm⟩,fun k x hx=>by simp at hx,fun k m x y _ hx=>by simp at hx,fun f hf=>(hT.dis f hf).1,hT.alt,?_,hT.le⟩;exact ⟨Can.refl _,fun _ h=>h,fun _ h=>.inl h,fun _ _=>rfl,fun _ h=>.inl h,fun _ h=>h⟩
  obtain ⟨M1,fr1,s1,d1,I1,m1⟩:=z2k hE hok I0 (fun j o hj=>by
    rw [List.length_nil,Nat.zero_add];rw [List.getElem?_take] at hj;split at hj
    · exact hj
    · simp at hj) hdd.1 hp hob1
  rw [List.nil_append] at I1
  -- behind the first part all may lean on all
  let D:Nat:=2 ^ M1.length - 1
  have hDall:∀ m,m<M1.length→Nat.testBit D m=true:=fun m hm=>by
    show Nat.testBit (2 ^ M1.length - 1) m=true;rw [Nat.testBit_two_pow_sub_one];exact decide_eq_true hm
  have hT1:TRel GL (SupL A M1 D) β S s1:=by
    refine I1.rel.more _ (fun f hf=>.inl hf) (fun f hf=>?_) (fun f hf ho=>?_)
    · rcases hf with q|⟨m,x,_,q2,_,q4⟩
      · exact I1.rel.alt f q
      · have:=(I1.log m x q2).2.2.1;omega
    · rcases hf with q|⟨m,x,_,q2,q3,q4⟩
      · exact (I1.rel.dis f ho).2 q
      · have:=(I1.log m x q2).1;have:=I1.own f ho;omega
  have hF1:FrOk (SupL A M1 D) β (zaa s1.obj) N h1 fr1:=⟨I1.nt,I1.le,fun t=>by
    obtain ⟨E,e1,_⟩:=I1.slot t
    exact e1.mono (fun f hf=>SupL.sub (fun m hm _=>hDall m hm) hf) (fun _ _=>rfl) (Bx.le_refl _)⟩
  have hS1:Stp A β s (SupL A M1 D) β s1:=by
    refine ⟨I1.calm.can,fun f hf=>.inl hf,fun f hf=>?_,fun f hf=>.inl hf,fun f hf _=>I1.calm.keep f hf,Bx.le_refl _,I1.calm.rd,fun x hx=>.inl (I1.calm.wr x hx)⟩;rcases hf with q|⟨m,x,_,q2,q3,_⟩
    · exact .inl q
    · have:=(I1.log m x q2).1;exact .inr (.inl (by omega))
  obtain ⟨M2,fr2,s2,d2,L2,W2⟩:=z0b hE hdd.2 hF1 hT1 hr hob2;have hdraw:=zit d1 d2;rw [← hsplit] at hdraw;obtain ⟨f1,f2⟩:=zpw hdraw;have L2':=L2;obtain ⟨A2,β2,hF2,hT2,_⟩:=L2';refine W.draw hdraw ?_ ⟨h',S',Left.trans (h':=h) (fr':=fr) hT.le hS1 L2,hq⟩;refine zwf rfl (zlr fun i j x y hij _ hx hy=>?_);simp only [List.nil_append] at hx hy;have hjl:j<ops.toList.length:=by rw [← f1];exact (List.getElem?_eq_some_iff.1 hy).1
  have ho1:ops.toList[i]?=some (ops.toList[i]'(by omega)):=List.getElem?_eq_getElem _;have ho2:ops.toList[j]?=some (ops.toList[j]'hjl):=List.getElem?_eq_getElem _;by_cases hkj:k≤j
  · rcases zyz hoS hij hkj ho1 ho2 with q|q|q|q|q|⟨a1,q1,q2,q3⟩|⟨a1,q1,q2,q3⟩
    · exact .inl q
    · obtain ⟨a,b,c⟩:=(f2 i _ x ho1 hx).1 q;exact .inr (zg6 a b c)
    · obtain ⟨a,b⟩:=(f2 j _ y ho2 hy).2 q;exact .inr (zfz a b)
    · obtain ⟨a,b,c⟩:=zk6 hdraw i _ x ho1 hx q;exact .inr (zg6 a b c)
    · obtain ⟨a,b,c⟩:=zk6 hdraw j _ y ho2 hy q;exact .inr (zfz a b)
    · have z1:=zrx hdraw (by rw [hF.nt];exact hF.le) (by rw [hF.nt];exact hd) i _ x 0 a1 ho1 hx q1 (zwy q3 ho1)
      have hyM:y∈M2:=by
        have hm1:M1.length≤j:=by rw [m1,List.length_take];omega
        rw [List.getElem?_append_right hm1] at hy;exact List.mem_of_getElem? hy
      have ga:=zpv hdraw (by rw [hF.nt];exact hF.le) q3;obtain ⟨l,hl⟩:=zr2 hcs q2;obtain ⟨rx,wx,lo,hi⟩:=x;obtain ⟨ry,wy,lo',hi'⟩:=y;simp only [z5y] at z1;rcases z1 with ⟨p1,p2,p3⟩|⟨ad1,p1,p2,p3,p4,p5,p6⟩
      · exact .inr (zg6 p1 p2 p3)
      · rw [ga] at p1;have fa:A ad1.block:=zwk (S:=S) (b:=none) hF hT (by rw [hl];trivial) p1;have e5:=p5 trivial;have e6:=p6 (by omega);refine .inr (zfv (fun f hf=>by simp [e5] at hf) (fun f hf hw=>?_) (fun f _=>by omega) (fun f _=>by omega));rw [p2 f hf] at hw;rcases (W2 _ hyM).2 _ hw with r|r
        · exact (hT.dis _ r).2 fa
        · have:=hT.alt _ fa;have:=I1.calm.can.n;omega
    · have z1:=zrx hdraw (by rw [hF.nt];exact hF.le) (by rw [hF.nt];exact hd) j _ y 0 a1 ho2 hy q1 (zwy q3 ho2);have ga:=zpv hdraw (by rw [hF.nt];exact hF.le) q3;obtain ⟨l,hl⟩:=zr2 hcs q2
      have xlo:s.n≤x.lo∧∀ f,f∈x.wr→Own β f∨s.n≤f:=by
        by_cases hi:i<M1.length
        · rw [List.getElem?_append_left hi] at hx;obtain ⟨x1,_,_,x4,_⟩:=I1.log i x hx;exact ⟨x1,fun f hf=>by rw [x4] at hf;simp at hf⟩
        · rw [List.getElem?_append_right (by omega)] at hx;have w:=W2 _ (List.mem_of_getElem? hx);have:=I1.calm.can.n;exact ⟨by omega,fun f hf=>(w.2 f hf).imp (fun r=>r) (fun r=>by omega)⟩
      obtain ⟨rx,wx,lo,hi⟩:=x;obtain ⟨ry,wy,lo',hi'⟩:=y;simp only [z5y] at z1;rcases z1 with ⟨p1,p2,p3⟩|⟨ad1,p1,p2,p3,p4,p5,p6⟩
      · exact .inr (zfz p1 p2)
      · rw [ga] at p1;have fa:A ad1.block:=zwk (S:=S) (b:=none) hF hT (by rw [hl];trivial) p1;have e5:=p5 trivial;have:=hT.alt _ fa;simp only at xlo;refine .inr (zfv (fun f hf=>⟨fun hr=>?_,fun hw=>by simp [e5] at hw⟩) (fun f hf hw=>by simp [e5] at hw) (fun f hr=>.inl ?_) (fun f hw=>by simp [e5] at hw))
        · rw [p2 f hr] at hf;rcases xlo.2 _ hf with r|r
          · exact (hT.dis _ r).2 fa
          · omega
        · rw [p2 f hr];omega
  · have hjM:j<M1.length:=by rw [m1,List.length_take];omega
    rw [List.getElem?_append_left (by omega)] at hx;rw [List.getElem?_append_left hjM] at hy;by_cases hbit:Nat.testBit (nth 0 (zc9 ops.toList []) j) i=true
    · exact .inl hbit
    · right;obtain ⟨x1,x2,x3,x4,x5⟩:=I1.log i x hx;obtain ⟨y1,y2,y3,y4,y5⟩:=I1.log j y hy;obtain ⟨rx,wx,lo,hi⟩:=x;obtain ⟨ry,wy,lo',hi'⟩:=y;simp only at x1 x2 x3 x4 x5 y1 y2 y3 y4 y5;subst x4;subst y4;refine zfv (fun f hf=>by simp at hf) (fun f _=>by simp) (fun f hf=>?_) (fun f hf=>by simp at hf);obtain ⟨g1,g2⟩:=y5 f hf;rcases g2 with (g2|⟨m,z,g3,g4,g5,g6⟩)|g2
      · have:=I1.base f g2;omega
      · by_cases hmi:m=i
        · subst hmi;exact absurd g3 hbit
        · by_cases hlt:m<i
          · have:=I1.apart m i z _ hlt g4 hx;simp only at this;omega
          · have:=I1.apart i m _ z (by omega) hx g4;simp only at this;omega
      · have:=I1.own f g2;omega
end
end
end Go.Proofs.YtjgbkegkcbcjaaaGreat
