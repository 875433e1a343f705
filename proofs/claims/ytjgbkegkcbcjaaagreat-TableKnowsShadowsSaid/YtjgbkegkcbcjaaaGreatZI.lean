/- Part 9 of the proof of TableKnowsShadows (several texts in one; no further condition). -/
import Derived.Test.YtjgbkegkcbcjaaaGreatZH
import Derived.Test.YtjgbkegkcbcjaaaGreatZF
set_option linter.unusedSimpArgs false
set_option linter.unusedVariables false
set_option linter.unusedSectionVars false
namespace Go.Proofs.YtjgbkegkcbcjaaaGreat
section
open Go Go.RowKit
def zep (p q:Pat):Bool:=(List.range 160).all fun i=>!(hbit p.mask i && hbit q.mask i) || (hbit p.bits i == hbit q.bits i)
theorem zj0 {p q:Pat}:zep p q=true↔∀ i,i<160→hbit p.mask i=true→hbit q.mask i=true→hbit p.bits i=hbit q.bits i:=by
  unfold zep;rw [List.all_eq_true];constructor
  · intro hh i hi hm hq;have:=hh i (List.mem_range.2 hi);rw [hm,hq] at this;simpa using this
  · intro hh i hi;have:=hh i (List.mem_range.1 hi)
    cases hm:hbit p.mask i with
    |false=>rfl
    |true =>
      cases hq:hbit q.mask i with
      |false=>rfl
      |true=>simpa using this hm hq
theorem z1x {k:Nat} {p q:Pat} (hp:zag p=true) (hq:zag q=true) (hk:10<k):zek k p q=some (zep p q):=by
  obtain ⟨pm,pb,_⟩:=zaj.1 hp;obtain ⟨qm,qb,_⟩:=zaj.1 hq;unfold zek
  rw [zgn (L:=zb1 k p q) 10 false (fun j=>decide ((hw p.bits j ^^^ hw q.bits j) &&& (hw p.mask j &&& hw q.mask j)=0)) (by decide) (fun m j hj=>by
    obtain ⟨a1,a2⟩:=zb3 pb hj;obtain ⟨b1,b2⟩:=zb3 pm hj;obtain ⟨c1,c2⟩:=zb3 qb hj;obtain ⟨d1,d2⟩:=zb3 qm hj;have hx:hw p.bits j ^^^ hw q.bits j<2 ^ 16:=Nat.xor_lt_two_pow a2 c2;have hy:(hw p.bits j ^^^ hw q.bits j) &&& hw p.mask j≤hw p.mask j:=Nat.and_le_right;rw [zb1,if_pos (lt10 hj),if_pos ⟨by omega,lt10 hj⟩,a1,b1,c1,d1,z56 (by omega) (by omega),zre (by omega) (by omega),zre (by omega) (by omega),Nat.and_assoc];by_cases c:(hw p.bits j ^^^ hw q.bits j) &&& (hw p.mask j &&& hw q.mask j)=0
    · rw [if_neg (by omega),if_pos (decide_eq_true c)]
    · rw [if_pos (by omega),if_neg (by rw [decide_eq_true_eq];exact c)]) (fun m=>by rw [zb1];exact if_neg (by decide)) hk,Option.bind_some]
  have e:(List.range 10).all (fun j=>decide ((hw p.bits j ^^^ hw q.bits j) &&& (hw p.mask j &&& hw q.mask j)=0))=zep p q:=by
    rw [Bool.eq_iff_iff,List.all_eq_true,zj0];have hand:∀ j,j<10→hw p.mask j &&& hw q.mask j<65536:=fun j hj=>Nat.lt_of_le_of_lt Nat.and_le_left (zb3 pm hj).2;constructor
    · intro hall i hi h1 h2;have:=of_decide_eq_true (hall (i / 16) (List.mem_range.2 (by omega)));refine (zl3 (zb3 pb (by omega)).2 (zb3 qb (by omega)).2 (hand (i / 16) (by omega))).1 this (15 - i % 16) (by omega) ?_;rw [Nat.testBit_and];unfold hbit at h1 h2;rw [h1,h2];rfl
    · intro hall j hj;have hj':=List.mem_range.1 hj;refine decide_eq_true ((zl3 (zb3 pb hj').2 (zb3 qb hj').2 (hand j hj')).2 fun t ht h1=>?_);rw [Nat.testBit_and,Bool.and_eq_true] at h1;rw [← zhb p.bits hj' ht,← zhb q.bits hj' ht];exact hall _ (z1z j t hj' ht).2.2 (by rw [zhb p.mask hj' ht];exact h1.1) (by rw [zhb q.mask hj' ht];exact h1.2)
  rw [e];cases zep p q<;>rfl
theorem z36 {a:Ar 10} {i w:Nat} (ha:zac a=true) (hi:i<160) (hw':w<65536):zac (a.set ((i / 16:Nat):Int) (w:Int))=true∧∀ j,j<160→hbit (a.set ((i / 16:Nat):Int) (w:Int)) j=if j / 16=i / 16 then w.testBit (15 - j % 16) else hbit a j:=by
  have hi10:i / 16<10:=by omega
  refine ⟨zp4 fun j hj=>?_,fun j hj=>?_⟩
  · by_cases c:i / 16=j
    · subst c;exact ⟨w,zkr _ hi10,hw'⟩
    · rw [zoj _ hj c];exact ⟨_,(zb3 ha hj).1,(zb3 ha hj).2⟩
  · unfold hbit hw;by_cases c:i / 16=j / 16
    · rw [if_pos c.symm,← c,zkr _ hi10];rfl
    · rw [if_neg (fun q=>c q.symm),zoj _ (by omega) c]
theorem z84 {i:Nat}:2 ^ (15 - i % 16)<65536:=show 2 ^ (15 - i % 16)<2 ^ 16 from Nat.pow_lt_pow_right (by decide) (by omega)
theorem ylv {a:Ar 10} {i:Nat} (ha:zac a=true) (hi:i<160):zac (a.set ((i / 16:Nat):Int) (iOr .i64 (gx a.l ((i / 16:Nat):Int)) ((2 ^ (15 - i % 16):Nat):Int)))=true∧∀ j,j<160→hbit (a.set ((i / 16:Nat):Int) (iOr .i64 (gx a.l ((i / 16:Nat):Int)) ((2 ^ (15 - i % 16):Nat):Int))) j=(decide (j=i) || hbit a j):=by
  obtain ⟨a1,a2⟩:=zb3 ha (show i / 16<10 by omega);have h2:=z84 (i:=i);rw [a1,yj6 (by omega) (by omega)];obtain ⟨r1,r2⟩:=z36 ha hi (w:=hw a (i / 16) ||| 2 ^ (15 - i % 16)) (Nat.or_lt_two_pow (n:=16) a2 h2);refine ⟨r1,fun j hj=>?_⟩;rw [r2 j hj];by_cases c:j / 16=i / 16
  · rw [if_pos c,Nat.testBit_or,zun,← c,Bool.or_comm];congr 1;exact decide_eq_decide.2 (by omega)
  · rw [if_neg c,decide_eq_false (by intro q;subst q;exact c rfl),Bool.false_or]
theorem yir {a:Ar 10} {i:Nat} (ha:zac a=true) (hi:i<160):zac (a.set ((i / 16:Nat):Int) (zls .i64 (gx a.l ((i / 16:Nat):Int)) ((2 ^ (15 - i % 16):Nat):Int)))=true∧∀ j,j<160→hbit (a.set ((i / 16:Nat):Int) (zls .i64 (gx a.l ((i / 16:Nat):Int)) ((2 ^ (15 - i % 16):Nat):Int))) j=(!decide (j=i) && hbit a j):=by
  obtain ⟨a1,a2⟩:=zb3 ha (show i / 16<10 by omega);have h2:=z84 (i:=i);rw [a1,ycb (by omega) (by omega)];obtain ⟨r1,r2⟩:=z36 ha hi (w:=hw a (i / 16) - (hw a (i / 16) &&& 2 ^ (15 - i % 16))) (by omega);refine ⟨r1,fun j hj=>?_⟩;rw [r2 j hj];by_cases c:j / 16=i / 16
  · rw [if_pos c,zw1 (by omega) (by omega),zun,← c,Bool.and_comm];congr 2;exact decide_eq_decide.2 (by omega)
  · rw [if_neg c,decide_eq_false (by intro q;subst q;exact c rfl),Bool.not_false,Bool.true_and]
theorem ymq {k i:Nat} (hi:i<160):zf5 k (i:Int)=some ((2 ^ (15 - i % 16):Nat):Int):=by
  have e:IntKind.i64.wrap (15 - ((i:Int) % 16))=((15 - i % 16:Nat):Int):=by rw [wr64 (by omega)];omega
  unfold zf5;rw [if_pos ⟨by omega,by decide⟩,e,if_pos (by omega)];have h2:=z84 (i:=i);unfold iShl
  have e2:min ((15 - i % 16:Nat):Int).toNat IntKind.i64.bits=15 - i % 16:=by
    have:IntKind.i64.bits=64:=rfl;rw [this];omega
  rw [e2,Int.one_mul,show ((2:Int) ^ (15 - i % 16))=((2 ^ (15 - i % 16):Nat):Int) by push_cast;rfl];generalize 2 ^ (15 - i % 16)=w at h2 ⊢;rw [wr64 (by omega)]
structure zwr (p:Pat) (i:Nat) (b:Bool) (r:Pat):Prop where
  mask:zac r.mask=true
  bits:zac r.bits=true
  hm:∀ j,j<160→hbit r.mask j=(decide (j=i) || hbit p.mask j)
  hb:∀ j,j<160→hbit r.bits j=if j=i then b else hbit p.bits j
theorem z67 {k i:Nat} {p:Pat} {b:Bool} (hp:zag p=true) (hi:i<160):∃ r,zhn k p (i:Int) (b.toNat:Int)=some r∧zwr p i b r:=by
  obtain ⟨pm,pb,_⟩:=zaj.1 hp;have hw16:IntKind.i64.wrap ((i:Int) / 16)=((i / 16:Nat):Int):=zwv hi;have hi10:i / 16<10:=by omega
  unfold zhn;rw [if_pos ⟨by omega,by decide⟩,hw16,if_pos ⟨by omega,by omega⟩,ymq hi,Option.bind_some,Option.bind_some];obtain ⟨m1,m2⟩:=ylv pm hi;obtain ⟨c1,c2⟩:=yir pb hi
  cases b with
  |false =>
    rw [if_neg (by decide)];exact ⟨_,rfl,m1,c1,m2,fun j hj=>by rw [c2 j hj];by_cases q:j=i<;>simp [q]⟩
  |true =>
    rw [if_pos (by decide),Option.bind_some];obtain ⟨o1,o2⟩:=ylv c1 hi;exact ⟨_,rfl,m1,o1,m2,fun j hj=>by rw [o2 j hj,c2 j hj];by_cases q:j=i<;>simp [q]⟩
/-! the first open bit -/
def zez (a b:Nat):Nat:=(a - (a &&& b)) % 65536
theorem zvb:∀ (l m:List Nat) (i:Nat),l.length=m.length→(zqv i l m=[]∧∀ s,s<l.length→zez (l.getD s 0) (m.getD s 0)=0)∨∃ s,s<l.length∧(∀ s',s'<s→zez (l.getD s' 0) (m.getD s' 0)=0)∧zez (l.getD s 0) (m.getD s 0)≠0∧∃ r,zqv i l m=(16*(i+s)+(15 - Nat.log2 (zez (l.getD s 0) (m.getD s 0)))) :: r
  |[],m,i,h=>.inl ⟨by unfold zqv;rfl,fun s hs=>by simp at hs⟩
  |a :: l,[],i,h=>by simp at h
  |a :: l,b :: m,i,h=>by
    have e:zqv i (a :: l) (b :: m)=(zub 17 (zez a b)).map (fun x=>16*i+x)++zqv (i+1) l m:=by rw [zqv];rfl
    rw [e];by_cases c:zez a b=0
    · have e0:zub 17 (zez a b)=[]:=by rw [c];rfl
      rw [e0,List.map_nil,List.nil_append];rcases zvb l m (i+1) (by simpa using h) with ⟨h1,h2⟩|⟨s,h1,h2,h3,r,h4⟩
      · refine .inl ⟨h1,fun s hs=>?_⟩
        cases s with
        |zero=>exact c
        |succ s=>exact h2 s (by simpa using hs)
      · refine .inr ⟨s+1,by simpa using h1,fun s' hs'=>?_,h3,r,?_⟩
        · cases s' with
          |zero=>exact c
          |succ s'=>exact h2 s' (by omega)
        · rw [h4,List.getD_cons_succ,List.getD_cons_succ,show i+1+s=i+(s+1) by omega]
    · have e0:zub 17 (zez a b)=(15 - Nat.log2 (zez a b)) :: zub 16 (zez a b - 2 ^ Nat.log2 (zez a b)):=by rw [zub,if_neg c]
      rw [e0];exact .inr ⟨0,by simp,fun s' hs'=>by omega,c,_,rfl⟩
theorem z7t {a b t:Nat} (ha:a<65536) (hb:b<65536) (ht:t<16):(zez a b).testBit t=(a.testBit t && !b.testBit t):=by
  unfold zez;rw [Nat.mod_eq_of_lt (by omega),zw1 (by omega) (by omega)]
theorem z0b {a:Ar 10} {s:Nat} (hs:s<10):(zh7 a).getD s 0=hw a s:=by
  unfold zh7 hw;rw [zv7,List.getD_eq_getElem?_getD,List.getD_eq_getElem?_getD,List.getElem?_map]
  cases h:a.l[s]? with
  |none=>rw [List.getElem?_eq_none_iff] at h;have:=a.h;omega
  |some x=>rfl
def zg0 (q p:Pat) (i:Nat):Bool:=hbit q.mask i && !hbit p.mask i
theorem z7v {q p:Pat} (hq:zac q.mask=true) (hp:zac p.mask=true):(z7w q.mask p.mask=[]∧∀ i,i<160→zg0 q p i=false)∨∃ x r,z7w q.mask p.mask=x :: r∧x<160∧zg0 q p x=true∧∀ i,i<x→zg0 q p i=false:=by
  have hl:∀ a:Ar 10,(zh7 a).length=10:=fun a=>by unfold zh7;rw [List.length_map,a.h]
  have hW:∀ s,s<10→zez ((zh7 q.mask).getD s 0) ((zh7 p.mask).getD s 0)=zez (hw q.mask s) (hw p.mask s):=fun s hs=>by rw [z0b hs,z0b hs]
  have bit:∀ i,i<160→zg0 q p i=(zez (hw q.mask (i / 16)) (hw p.mask (i / 16))).testBit (15 - i % 16):=fun i hi=>by
    rw [z7t (zb3 hq (by omega)).2 (zb3 hp (by omega)).2 (by omega)];rfl
  have zero:∀ s,s<10→zez ((zh7 q.mask).getD s 0) ((zh7 p.mask).getD s 0)=0→∀ i,i<160→i / 16=s→zg0 q p i=false:=fun s hs h0 i hi e=>by
    rw [bit i hi,e,← hW s hs,h0,Nat.zero_testBit]
  rcases zvb (zh7 q.mask) (zh7 p.mask) 0 (by rw [hl,hl]) with ⟨h1,h2⟩|⟨s,h1,h2,h3,r,h4⟩
  · refine .inl ⟨h1,fun i hi=>zero (i / 16) (by omega) (h2 _ (by rw [hl];omega)) i hi rfl⟩
  · rw [hl] at h1;rw [hW s h1] at h3 h4;have hlt:zez (hw q.mask s) (hw p.mask s)<65536:=Nat.mod_lt _ (by decide);have hlog:Nat.log2 (zez (hw q.mask s) (hw p.mask s))<16:=(Nat.log2_lt h3).2 hlt;have htop:(zez (hw q.mask s) (hw p.mask s)).testBit (Nat.log2 (zez (hw q.mask s) (hw p.mask s)))=true:=Nat.testBit_log2 h3;have hup:∀ t,Nat.log2 (zez (hw q.mask s) (hw p.mask s))<t→(zez (hw q.mask s) (hw p.mask s)).testBit t=false:=fun t ht=>Nat.testBit_lt_two_pow (Nat.lt_of_lt_of_le (Nat.lt_log2_self) (Nat.pow_le_pow_right (by decide) ht));generalize Nat.log2 (zez (hw q.mask s) (hw p.mask s))=g at *;refine .inr ⟨16*(0+s)+(15 - g),r,h4,by omega,?_,fun i hi=>?_⟩
    · rw [bit _ (by omega),show (16*(0+s)+(15 - g)) / 16=s by omega,show 15 - (16*(0+s)+(15 - g)) % 16=g by omega];exact htop
    · by_cases c:i / 16=s
      · rw [bit i (by omega),c];exact hup _ (by omega)
      · exact zero (i / 16) (by omega) (h2 _ (by omega)) i (by omega) rfl
theorem ybe {a:Ar 10} (h:zac a=true):natM a:=by
  intro x hx;unfold zac at h;have:=List.all_eq_true.1 h x hx;unfold zu6 at this;have:=of_decide_eq_true this;omega
end
section
open Go Go.RowKit
def ltH (a b:Ar 10):Prop:=∃ i,i<160∧(∀ j,j<i→hbit a j=hbit b j)∧hbit a i=false∧hbit b i=true
structure Out (p:Pat) (l:List Pat) (h:Ar 10):Prop where
  right:zac h=true
  into:zam p h=true
  no:∀ q,q∈l→zam q h=false
structure zne (p:Pat) (l:List Pat) (h:Ar 10):Prop where
  out:Out p l h
  least:∀ h',Out p l h'→¬ ltH h' h
def Res (p:Pat) (l:List Pat) (r:Ar 10×Bool):Prop:=(r.2=true∧zne p l r.1)∨(r=(zA 10,false)∧∀ h,¬ Out p l h)
theorem z5k {a b:Ar 10} (ha:zac a=true) (hb:zac b=true):a=b∨ltH a b∨ltH b a:=by
  by_cases h:∃ i,i<160∧hbit a i≠hbit b i
  · right
    have key:∀ n,(∃ i,i<n∧hbit a i≠hbit b i)→∃ i,i<n∧(∀ j,j<i→hbit a j=hbit b j)∧hbit a i≠hbit b i:=by
      intro n
      induction n with
      |zero=>rintro ⟨i,hi,_⟩;omega
      |succ n ih =>
        rintro ⟨i,hi,hd⟩;by_cases h2:∃ i,i<n∧hbit a i≠hbit b i
        · obtain ⟨j,h3,h4,h5⟩:=ih h2;exact ⟨j,by omega,h4,h5⟩
        · refine ⟨i,hi,fun j hj=>?_,hd⟩;by_cases e:hbit a j=hbit b j
          · exact e
          · exact absurd ⟨j,by omega,e⟩ h2
    obtain ⟨i,h1,h2,h3⟩:=key 160 h
    cases e1:hbit a i with
    |false =>
      cases e2:hbit b i with
      |false=>rw [e1,e2] at h3;exact absurd rfl h3
      |true=>exact .inl ⟨i,h1,h2,e1,e2⟩
    |true =>
      cases e2:hbit b i with
      |true=>rw [e1,e2] at h3;exact absurd rfl h3
      |false=>exact .inr ⟨i,h1,fun j hj=>(h2 j hj).symm,e2,e1⟩
  · left
    exact zrf ha hb fun i hi=>by
      by_cases e:hbit a i=hbit b i
      · exact e
      · exact absurd ⟨i,hi,e⟩ h
theorem zne.uniq {p:Pat} {l:List Pat} {a b:Ar 10} (ha:zne p l a) (hb:zne p l b):a=b:=by
  rcases z5k ha.out.right hb.out.right with h|h|h
  · exact h
  · exact absurd h (hb.least _ ha.out)
  · exact absurd h (ha.least _ hb.out)
theorem Res.uniq {p:Pat} {l:List Pat} {r s:Ar 10×Bool} (hr:Res p l r) (hs:Res p l s):r=s:=by
  obtain ⟨r1,r2⟩:=r;obtain ⟨s1,s2⟩:=s;rcases hr with ⟨h1,h2⟩|⟨h1,h2⟩
  · rcases hs with ⟨h3,h4⟩|⟨h3,h4⟩
    · simp only at h1 h2 h3 h4;rw [h1,h3,h2.uniq h4]
    · exact absurd h2.out (h4 _)
  · rcases hs with ⟨h3,h4⟩|⟨h3,h4⟩
    · exact absurd h4.out (h2 _)
    · rw [h1,h3]
theorem z2z {p q:Pat} {h:Ar 10} (hp:zam p h=true) (hq:zam q h=true):zep p q=true :=
  zj0.2 fun i hi h1 h2=>by rw [zaz.1 hp i hi h1,zaz.1 hq i hi h2]
theorem zis {p r:Pat} {i:Nat} {b:Bool} {h:Ar 10} (hi:i<160) (hpi:hbit p.mask i=false) (hf:zwr p i b r):zam r h=true↔zam p h=true∧hbit h i=b:=by
  rw [zaz,zaz];constructor
  · intro hm;refine ⟨fun j hj h1=>?_,?_⟩
    · have hne:j≠i:=by intro e;rw [e,hpi] at h1;cases h1
      have:=hm j hj (by rw [hf.hm j hj,h1];simp);rw [hf.hb j hj,if_neg hne] at this;exact this
    · have:=hm i hi (by rw [hf.hm i hi];simp);rw [hf.hb i hi,if_pos rfl] at this;exact this.symm
  · rintro ⟨hm,hb⟩ j hj h1;rw [hf.hb j hj];by_cases e:j=i
    · rw [if_pos e,e,hb]
    · rw [if_neg e];rw [hf.hm j hj,decide_eq_false e,Bool.false_or] at h1;exact hm j hj h1
theorem z03 {p r:Pat} {i:Nat} {b:Bool} (hp:zag p=true) (hf:zwr p i b r):zag r=true:=by
  refine zaj.2 ⟨hf.mask,hf.bits,fun j hj h1=>?_⟩;rw [hf.hm j hj];by_cases e:j=i
  · simp [e]
  · rw [hf.hb j hj,if_neg e] at h1;rw [(zaj.1 hp).2.2 j hj h1];simp
theorem zvo {p:Pat} {l:List Pat} (hp:zag p=true) (hn:∀ q,q∈l→zep p q=false):zne p l p.bits:=by
  obtain ⟨pm,pb,pw⟩:=zaj.1 hp;have hself:zam p p.bits=true:=zaz.2 fun i _ _=>rfl;refine ⟨⟨pb,hself,fun q hq=>?_⟩,fun h' ho=>?_⟩
  · cases hm:zam q p.bits with
    |false=>rfl
    |true=>have:=z2z hself hm;rw [hn q hq] at this;cases this
  · rintro ⟨i,hi,_,h1,h2⟩;have:=zaz.1 ho.into i hi (pw i hi h2);rw [h1,h2] at this;cases this
theorem Out.near {p:Pat} {l:List Pat} {h:Ar 10}:Out p l h↔Out p (l.filter (zep p)) h:=by
  constructor
  · exact fun ⟨a,b,c⟩=>⟨a,b,fun q hq=>c q (List.mem_filter.1 hq).1⟩
  · refine fun ⟨a,b,c⟩=>⟨a,b,fun q hq=>?_⟩
    cases hm:zam q h with
    |false=>rfl
    |true =>
      have:=c q (List.mem_filter.2 ⟨hq,z2z b hm⟩);rw [hm] at this;cases this
theorem Res.join {p p0 p1:Pat} {l:List Pat} {i:Nat} {r0 r1:Ar 10×Bool} (hi:i<160) (hpi:hbit p.mask i=false) (h0:zwr p i false p0) (h1:zwr p i true p1)
    (ho:∀ q,q∈l→∀ j,j<i→zg0 q p j=false) (k0:Res p0 l r0) (k1:r0.2=false→Res p1 l r1):Res p l (if r0.2=true then (r0.1,true) else (r1.1,r1.2)):=by
  rcases k0 with ⟨a,b⟩|⟨a,b⟩
  · rw [if_pos a];refine .inl ⟨rfl,⟨⟨b.out.right,((zis hi hpi h0).1 b.out.into).1,b.out.no⟩,fun h' ho'=>?_⟩⟩;obtain ⟨bm,bi⟩:=(zis hi hpi h0).1 b.out.into;rintro ⟨j,hj,e1,e2,e3⟩
    cases hb:hbit h' i with
    |false=>exact b.least h' ⟨ho'.right,(zis hi hpi h0).2 ⟨ho'.into,hb⟩,ho'.no⟩ ⟨j,hj,e1,e2,e3⟩
    |true =>
      by_cases c1:j=i
      · subst c1;rw [bi] at e3;cases e3
      · by_cases c2:i<j
        · have:=e1 i c2;rw [hb,bi] at this;cases this
        · have hji:j<i:=by omega
          have hpj:hbit p.mask j=false:=by
            cases hm:hbit p.mask j with
            |false=>rfl
            |true =>
              have x1:=zaz.1 ho'.into j hj hm;have x2:=zaz.1 bm j hj hm;rw [x1,e2] at x2;rw [e3] at x2;cases x2
          obtain ⟨c3,c4⟩:=yir b.out.right hj;generalize r0.1.set ((j / 16:Nat):Int) _=h2 at c3 c4;refine b.least h2 ⟨c3,?_,fun q hq=>?_⟩ ⟨j,hj,fun s hs=>?_,?_,e3⟩
          · refine (zis hi hpi h0).2 ⟨zaz.2 fun s hs hm=>?_,?_⟩
            · have hne:s≠j:=by intro e;rw [e,hpj] at hm;cases hm
              rw [c4 s hs,decide_eq_false hne,Bool.not_false,Bool.true_and];exact zaz.1 bm s hs hm
            · rw [c4 i hi,decide_eq_false (by omega),Bool.not_false,Bool.true_and];exact bi
          · have hqj:hbit q.mask j=false:=by
              have:=ho q hq j hji;unfold zg0 at this;rw [hpj] at this;simpa using this
            cases hm:zam q h2 with
            |false=>rfl
            |true =>
              have:zam q r0.1=true:=zaz.2 fun s hs hms=>by
                have hne:s≠j:=by intro e;rw [e,hqj] at hms;cases hms
                have x:=zaz.1 hm s hs hms;rw [c4 s hs,decide_eq_false hne,Bool.not_false,Bool.true_and] at x;exact x
              rw [b.out.no q hq] at this;cases this
          · rw [c4 s (by omega),decide_eq_false (by omega),Bool.not_false,Bool.true_and]
          · rw [c4 j hj];simp
  · subst a;rw [if_neg (by simp)];have k:=k1 rfl
    have split:∀ h,Out p l h→Out p1 l h:=fun h ho'=>by
      cases hb:hbit h i with
      |false=>exact absurd ⟨ho'.right,(zis hi hpi h0).2 ⟨ho'.into,hb⟩,ho'.no⟩ (b h)
      |true=>exact ⟨ho'.right,(zis hi hpi h1).2 ⟨ho'.into,hb⟩,ho'.no⟩
    rcases k with ⟨c,d⟩|⟨c,d⟩
    · exact .inl ⟨c,⟨⟨d.out.right,((zis hi hpi h1).1 d.out.into).1,d.out.no⟩,fun h' ho'=>d.least h' (split h' ho')⟩⟩
    · exact .inr ⟨by rw [c],fun h ho'=>d h (split h ho')⟩
end
section
open Go Go.RowKit
set_option maxRecDepth 100000
def zdn (k:Nat) (t:List Rule) (k_:Int):Nat→Int→(List Pat)→Nat→Option (List Pat×Nat)
 |0,_,_,_=>none
 |m+1,i,l,n=>(if i<k_ then (if (0:Int)≤i∧i<(t.length:Int) then (if (n+1)*161≤1000000000 then zdn k t k_ m (IntKind.i64.wrap (i+1)) (l++[(gx t i).mat]) (n+1) else none) else none) else some (l,n))
def zg4 (k:Nat) (t:List Rule) (k_:Int):Option (List Pat):=((zdn k t k_ k 0 [] 0:Option (List Pat×Nat)).bind fun s_=>(if s_.1.length=s_.2 then some s_.1 else none))
set_option maxHeartbeats 8000000 in
theorem zms (ax:Axs) (hx:zbe ax) (k:Nat) (t:List Rule) (k_:Int) (v:List Pat) (H:zg4 k t k_=some v):Pure Tryz.prog (EE ax) [] 70 [zbp t,.int .i64 k_] (lPat v):=by
 rw [zg4] at H;refine en [.tmp 4] 21 [0,1] (hx.no _ (by decide)) (fn70 ax) ?_;intro h hh;repeat apply TW.seq
 refine rk [0,1] [] hh ?_;clear hh h;intro h hh;repeat apply TW.seq
 refine rk [0,1,5] [] hh ?_;clear hh h;intro h hh;refine vk 5 20 [0,1,5] hh ?_;clear hh h;intro h hh;repeat apply TW.seq
 refine rk [0,1,5,6] [] hh ?_;clear hh h;intro h hh;obtain ⟨s_,H1,H⟩:=zad H;repeat apply TW.seq
 refine cu [5] 1 (fun h bs=>(h 5=.arr 0 20 0 s_.2 s_.2 (s_.2*20))∧bs=[.cells false (s_.2*20) (vecC ePat s_.1)]) ?_ ?_
 ·skip;repeat apply TW.seq
  apply TW.block;repeat apply TW.seq
  refine TW.loopT [0,1,5,6] (fun m h bs=>∃ (i:Int) (l:List Pat) (n:Nat),zdn k t k_ m i l n=some s_∧(h 0=zbp t∧h 1=.int .i64 k_∧h 5=.arr 0 20 0 n n (n*20)∧h 6=.int .i64 i)∧bs=[.cells false (n*20) (vecC ePat l)]) ?_ k _ _ ?_;rotate_left
  ·exact ⟨0,[],0,H1,kq hh,rfl⟩
  clear hh h H1;rintro m h bs ⟨i,l,n,H1,hh,rfl⟩;rcases m with _|m
  ·rw [zdn] at H1;cases H1
  rw [zdn] at H1;repeat apply TW.seq
  refine rk [0,1,5,6,9] [] hh ?_;clear hh h;intro h hh;rcases isp H1 with ⟨c1,H1⟩|⟨c1,H1⟩;rotate_left
  ·skip;repeat apply TW.seq
   refine cf (f2 hh (decide_eq_false c1)) ?_;refine xk ?_;cases H1;exact ce hh ⟨kq hh,rfl⟩
  repeat apply TW.seq
  refine ct (f2 hh (decide_eq_true c1)) ?_;repeat apply TW.seq
  refine sk ?_;repeat apply TW.seq
  apply TW.block;obtain ⟨g2,H1⟩:=isg H1;obtain ⟨g3,H1⟩:=isg H1;repeat apply TW.seq
  refine rg [] [] [.cells false ((n+1)*20) (vecC ePat (l++[(gx t i).mat]))] (fun h=>h 0=zbp t∧h 1=.int .i64 k_∧h 5=.arr 0 20 0 (n+1) (n+1) ((n+1)*20)∧h 6=.int .i64 i) (f3 hh (zai g2) (f3 ((show vecC ePat [(gx t i).mat]=((((gx t i).mat).mask).l.map (T.int .i64)++((((gx t i).mat).bits).l.map (T.int .i64))) from znk.trans rfl)) (z08 ax) (z9p ax))) trivial ?_;clear hh h;intro h hh;repeat apply TW.seq
  refine rk [0,1,5,6] [] hh ?_;clear hh h;intro h hh;exact rd m hh ⟨(IntKind.i64.wrap (i+1)),(l++[(gx t i).mat]),(n+1),H1,kq hh,rfl⟩
 clear hh h;rintro h bs ⟨hh,rfl⟩;repeat apply TW.seq
 refine rk [4] [] hh ?_;clear hh h;intro h hh;obtain ⟨g4,H⟩:=isg H;refine TW.freeze 4 (b:=0) (e:=20) (off:=0) (len:=s_.2) (cap:=s_.2) (M:=(s_.2*20)) (s_.1.map ePat) (kq hh) (by rfl) (by omega) (by omega) (by rw [List.drop_zero];exact zhi (fun x=>zcm x) g4) (fun t ht=>by obtain ⟨x,_,rfl⟩:=List.mem_map.1 ht;first|rfl|exact zit _|exact zcm _|exact zgs _|exact zcp _ | (rw [List.length_map];rfl)) (by rw [List.length_map];exact g4) (by omega) ?_;rw [zi0 _ _ _ (by simp only [lzA]<;>omega)];simp only [scA];refine gk [4] hh ?_;clear hh h;intro h hh;cases H;exact rt hh
def ze5 (k:Nat) (q:Pat):Nat→Int→(Ar 10)→(Ar 10)→Option ((Pat×Bool) ⊕ (Ar 10×Ar 10))
 |0,_,_,_=>none
 |m+1,i,x,x2=>(if i<160 then ((zdt k q.mask i).bind fun rBit=>(if rBit=0 then ze5 k q m (IntKind.i64.wrap (i+1)) x x2 else ((((zdt k x i).bind fun rBit2=>(if rBit2=1 then ((zdt k x2 i).bind fun rBit3=>((zdt k q.bits i).bind fun rBit4=>some (decide (rBit3≠rBit4)))) else some false)):Option Bool).bind fun s_2=>(if s_2=true then some (.inl ((⟨(zA 10),(zA 10)⟩:Pat),false)) else ((zf2 k x i 1).bind fun rset=>((zdt k q.bits i).bind fun rBit5=>((zf2 k x2 i rBit5).bind fun rset2=>ze5 k q m (IntKind.i64.wrap (i+1)) rset rset2))))))) else some (.inr (x,x2)))
def znv (k:Nat) (p:Pat) (q:Pat):Option (Pat×Bool):=((ze5 k q k 0 p.mask p.bits:Option ((Pat×Bool) ⊕ (Ar 10×Ar 10))).bind fun o=>Sum.elim (fun r=>some r) (fun s_=>some ((⟨s_.1,s_.2⟩:Pat),true)) o)
set_option maxHeartbeats 8000000 in
theorem z2k (ax:Axs) (hx:zbe ax) (k:Nat) (p:Pat) (q:Pat) (v:Pat×Bool) (H:znv k p q=some v):Pure Tryz.prog (EE ax) [] 77 [ePat p,ePat q] (tupT [ePat v.1,.bool v.2]):=by
 rw [znv] at H;refine enN [.cell 4 41,.tmp 5] 48 [0,1] (hx.no _ (by decide)) (fn77 ax) ?_;intro h hh;repeat apply TW.seq
 refine rk [2,3,4] [] hh ?_;clear hh h;intro h hh;repeat apply TW.seq
 refine rk [2,3,4,6] [] hh ?_;clear hh h;intro h hh;obtain ⟨o,H1,H⟩:=zad H;repeat apply TW.seq
 refine cu [2,4] 3 (fun h bs=>∃ s_:Ar 10×Ar 10,o=.inr s_∧(h 2=.ptr 0 0 20∧h 4=.ptr 2 0 20)∧bs=[.cells true 20 (s_.1.l.map (T.int .i64)++(s_.2.l.map (T.int .i64))),.cells true 20 (q.mask.l.map (T.int .i64)++(q.bits.l.map (T.int .i64))),.cells true 20 ((zA 10).l.map (T.int .i64)++((zA 10).l.map (T.int .i64)))]) ?_ ?_
 ·skip;repeat apply TW.seq
  apply TW.block;repeat apply TW.seq
  refine TW.loopT [2,3,4,6] (fun m h bs=>∃ (i:Int) (x:Ar 10) (x2:Ar 10),ze5 k q m i x x2=some o∧(h 2=.ptr 0 0 20∧h 3=.ptr 1 0 20∧h 4=.ptr 2 0 20∧h 6=.int .i64 i)∧bs=[.cells true 20 (x.l.map (T.int .i64)++(x2.l.map (T.int .i64))),.cells true 20 (q.mask.l.map (T.int .i64)++(q.bits.l.map (T.int .i64))),.cells true 20 ((zA 10).l.map (T.int .i64)++((zA 10).l.map (T.int .i64)))]) ?_ k _ _ ?_;rotate_left
  ·exact ⟨0,p.mask,p.bits,H1,kq hh,rfl⟩
  clear hh h H1;rintro m h bs ⟨i,x,x2,H1,hh,rfl⟩;rcases m with _|m
  ·rw [ze5] at H1;cases H1
  rw [ze5] at H1;repeat apply TW.seq
  refine rk [2,3,4,6,8] [] hh ?_;clear hh h;intro h hh;rcases isp H1 with ⟨c1,H1⟩|⟨c1,H1⟩;rotate_left
  ·skip;repeat apply TW.seq
   refine cf (f2 hh (decide_eq_false c1)) ?_;refine xk ?_;cases H1;exact ce hh ⟨_,rfl,kq hh,rfl⟩
  repeat apply TW.seq
  refine ct (f2 hh (decide_eq_true c1)) ?_;repeat apply TW.seq
  refine sk ?_;repeat apply TW.seq
  apply TW.block;obtain ⟨rBit,e2,H1⟩:=zad H1;repeat apply TW.seq
  refine rkc [2,3,4,6,15] [] [(.int .i64 rBit,stL [.cells true 20 (x.l.map (T.int .i64)++(x2.l.map (T.int .i64))),.cells true 20 (q.mask.l.map (T.int .i64)++(q.bits.l.map (T.int .i64))),.cells true 20 ((zA 10).l.map (T.int .i64)++((zA 10).l.map (T.int .i64)))])] hh ?_ ?_
  ·exact ⟨zak.call ((zbu ax hx k q.mask i rBit e2 ).call _),trivial⟩
  clear hh h;intro h hh;rcases isp H1 with ⟨c3,H1⟩|⟨c3,H1⟩;rotate_left
  ·skip;repeat apply TW.seq
   refine cf (f2 hh (decide_eq_false c3)) ?_;repeat apply TW.seq
   refine sk ?_;obtain ⟨s_2,H2,H1⟩:=zad H1;repeat apply TW.seq
   refine cu [2,3,4,6,31] 3 (fun h bs=>(h 2=.ptr 0 0 20∧h 3=.ptr 1 0 20∧h 4=.ptr 2 0 20∧h 6=.int .i64 i∧h 31=.bool s_2)∧bs=[.cells true 20 (x.l.map (T.int .i64)++(x2.l.map (T.int .i64))),.cells true 20 (q.mask.l.map (T.int .i64)++(q.bits.l.map (T.int .i64))),.cells true 20 ((zA 10).l.map (T.int .i64)++((zA 10).l.map (T.int .i64)))]) ?_ ?_
   ·skip;obtain ⟨rBit2,e4,H2⟩:=zad H2;rcases isp H2 with ⟨c5,H2⟩|⟨c5,H2⟩;rotate_left
    ·skip;repeat apply TW.seq
     refine dk 12 [2,3,4,6,31] [.int .i64 rBit2] [] [] (f2 hh (decide_eq_false c5)) ?_ trivial ?_
     ·exact ⟨(zbu ax hx k x i rBit2 e4 ).call _,trivial⟩
     clear hh h;intro h hh;cases H2;exact ce hh ⟨kq hh,rfl⟩
    obtain ⟨rBit3,e6,H2⟩:=zad H2;obtain ⟨rBit4,e7,H2⟩:=zad H2;repeat apply TW.seq
    refine dk 12 [2,3,4,6,31] [.int .i64 rBit2,.int .i64 rBit3] [] [(.int .i64 rBit4,stL [.cells true 20 (x.l.map (T.int .i64)++(x2.l.map (T.int .i64))),.cells true 20 (q.mask.l.map (T.int .i64)++(q.bits.l.map (T.int .i64))),.cells true 20 ((zA 10).l.map (T.int .i64)++((zA 10).l.map (T.int .i64)))])] (f2 hh (decide_eq_true c5)) ?_ ?_ ?_
    ·exact ⟨(zbu ax hx k x i rBit2 e4 ).call _,(zbu ax hx k x2 i rBit3 e6 ).call _,trivial⟩
    ·exact ⟨zak.call ((zbu ax hx k q.bits i rBit4 e7 ).call _),trivial⟩
    clear hh h;intro h hh;cases H2;exact ce hh ⟨kq hh,rfl⟩
   clear hh h;rintro h bs ⟨hh,rfl⟩;rcases isb H1 with ⟨c8,H1⟩|⟨c8,H1⟩;rotate_left
   ·skip;repeat apply TW.seq
    refine cf (f2 hh c8) ?_;repeat apply TW.seq
    refine sk ?_;obtain ⟨rset,e9,H1⟩:=zad H1;repeat apply TW.seq
    refine rkc [2,3,4,6] [] [(.agg (rset.l.map (T.int .i64)),stL [.cells true 20 (x.l.map (T.int .i64)++(x2.l.map (T.int .i64))),.cells true 20 (q.mask.l.map (T.int .i64)++(q.bits.l.map (T.int .i64))),.cells true 20 ((zA 10).l.map (T.int .i64)++((zA 10).l.map (T.int .i64)))])] (f2 hh c8) ?_ ?_
    ·exact ⟨zak.call (Pure.clr (zg5 ax hx k x i 1 rset e9 ) (by first|rfl|simp only [c8])),trivial⟩
    clear hh h;intro h hh;obtain ⟨rBit5,e10,H1⟩:=zad H1;obtain ⟨rset2,e11,H1⟩:=zad H1;repeat apply TW.seq
    refine dk 7 [2,3,4,6] [.int .i64 rBit5] [] [(.agg (rset2.l.map (T.int .i64)),stL [.cells true 20 (rset.l.map (T.int .i64)++(x2.l.map (T.int .i64))),.cells true 20 (q.mask.l.map (T.int .i64)++(q.bits.l.map (T.int .i64))),.cells true 20 ((zA 10).l.map (T.int .i64)++((zA 10).l.map (T.int .i64)))])] (f2 hh c8) ?_ ?_ ?_
    ·exact ⟨Pure.clr (zbu ax hx k q.bits i rBit5 e10 ) (by first|rfl|simp only [c8]),trivial⟩
    ·exact ⟨zak.call (Pure.clr (zg5 ax hx k x2 i rBit5 rset2 e11 ) (by first|rfl|simp only [c8])),trivial⟩
    clear hh h;intro h hh;repeat apply TW.seq
    refine rk [2,3,4,6] [] (f2 hh c8) ?_;clear hh h;intro h hh;exact rd m hh ⟨(IntKind.i64.wrap (i+1)),rset,rset2,H1,kq hh,rfl⟩
   repeat apply TW.seq
   refine ct (f2 hh c8) ?_;repeat apply TW.seq
   refine rk [4,5] [] (f2 hh c8) ?_;clear hh h;intro h hh;cases H1;obtain rfl:=sinl H;exact rtc hh
  repeat apply TW.seq
  refine ct (f2 hh (decide_eq_true c3)) ?_;refine xk ?_;repeat apply TW.seq
  refine rk [2,3,4,6] [] hh ?_;clear hh h;intro h hh;exact rd m hh ⟨(IntKind.i64.wrap (i+1)),x,x2,H1,kq hh,rfl⟩
 clear hh h;rintro h bs ⟨s_,rfl,hh,rfl⟩;replace H:=sinr H;repeat apply TW.seq
 refine rk [4,5] [] hh ?_;clear hh h;intro h hh;cases H;exact rtc hh
def zhl (k:Nat) (p:Pat) (q:Pat):Option Bool:=((znv k p q).bind fun rAnd=>some rAnd.2)
set_option maxHeartbeats 8000000 in
theorem zr0 (ax:Axs) (hx:zbe ax) (k:Nat) (p:Pat) (q:Pat) (v:Bool) (H:zhl k p q=some v):Pure Tryz.prog (EE ax) [] 39 [ePat p,ePat q] (.bool v):=by
 rw [zhl] at H;refine en [.tmp 4] 14 [0,1] (hx.no _ (by decide)) (fn39 ax) ?_;intro h hh;repeat apply TW.seq
 refine rk [2,3] [] hh ?_;clear hh h;intro h hh;obtain ⟨rAnd,e1,H⟩:=zad H;repeat apply TW.seq
 refine rkc [6] [] [(.tup [ePat rAnd.1,.bool rAnd.2],stL [.cells true 20 (p.mask.l.map (T.int .i64)++(p.bits.l.map (T.int .i64))),.cells true 20 (q.mask.l.map (T.int .i64)++(q.bits.l.map (T.int .i64)))])] hh ?_ ?_
 ·exact ⟨zak.call ((z2k ax hx k p q rAnd e1 ).call _),trivial⟩
 clear hh h;intro h hh;repeat apply TW.seq
 refine rk [4] [] hh ?_;clear hh h;intro h hh;cases H;exact rt hh
def zde (k:Nat) (q:Pat):Nat→Int→(Ar 10)→(Ar 10)→(List Pat)→Nat→Option (Ar 10×Ar 10×List Pat×Nat)
 |0,_,_,_,_,_=>none
 |m+1,i,x,x2,l,n=>(if i<160 then ((((zdt k q.mask i).bind fun rBit=>(if rBit=0 then some true else ((zdt k x i).bind fun rBit2=>some (decide (rBit2=1))))):Option Bool).bind fun s_2=>(if s_2=true then zde k q m (IntKind.i64.wrap (i+1)) x x2 l n else ((zdt k q.bits i).bind fun rBit3=>((zf2 k x i 1).bind fun rset=>((zf2 k x2 i (IntKind.i64.wrap (1 - rBit3))).bind fun rset2=>(if (n+1)*161≤1000000000 then ((zf2 k rset2 i rBit3).bind fun rset3=>zde k q m (IntKind.i64.wrap (i+1)) rset rset3 (l++[(⟨rset,rset2⟩:Pat)]) (n+1)) else none)))))) else some (x,x2,l,n))
def zju (k:Nat) (p:Pat) (q:Pat):Option (List Pat):=((zhl k p q).bind fun rOverlap=>(if rOverlap=true then ((zde k q k 0 p.mask p.bits [] 0:Option (Ar 10×Ar 10×List Pat×Nat)).bind fun s_=>(if s_.2.2.1.length=s_.2.2.2 then some s_.2.2.1 else none)) else some [p]))
set_option maxHeartbeats 8000000 in
theorem znt (ax:Axs) (hx:zbe ax) (k:Nat) (p:Pat) (q:Pat) (v:List Pat) (H:zju k p q=some v):Pure Tryz.prog (EE ax) [] 143 [ePat p,ePat q] (lPat v):=by
 rw [zju] at H;refine en [.tmp 4] 59 [0,1] (hx.no _ (by decide)) (fn143 ax) ?_;intro h hh;repeat apply TW.seq
 refine rk [2,3] [] hh ?_;clear hh h;intro h hh;obtain ⟨rOverlap,e1,H⟩:=zad H;repeat apply TW.seq
 refine rkc [2,3,5] [] [(.bool rOverlap,stL [.cells true 20 (p.mask.l.map (T.int .i64)++(p.bits.l.map (T.int .i64))),.cells true 20 (q.mask.l.map (T.int .i64)++(q.bits.l.map (T.int .i64)))])] hh ?_ ?_
 ·exact ⟨zak.call ((zr0 ax hx k p q rOverlap e1 ).call _),trivial⟩
 clear hh h;intro h hh;repeat apply TW.seq
 refine rk [2,3,13] [] hh ?_;clear hh h;intro h hh;rcases isb H with ⟨c2,H⟩|⟨c2,H⟩;rotate_left
 ·skip;repeat apply TW.seq
  refine ct (f2 hh c2) ?_;repeat apply TW.seq
  refine rk [4] [] (f3 hh c2 (z08 ax)) ?_;clear hh h;intro h hh;cases H;exact rt hh
 repeat apply TW.seq
 refine cf (f2 hh c2) ?_;repeat apply TW.seq
 refine sk ?_;repeat apply TW.seq
 refine rk [2,3,6] [] (f2 hh c2) ?_;clear hh h;intro h hh;refine vk 6 20 [2,3,6] hh ?_;clear hh h;intro h hh;repeat apply TW.seq
 refine rk [2,3,6,7] [] (f2 hh c2) ?_;clear hh h;intro h hh;obtain ⟨s_,H1,H⟩:=zad H;repeat apply TW.seq
 refine cu [6] 3 (fun h bs=>(h 6=.arr 2 20 0 s_.2.2.2 s_.2.2.2 (s_.2.2.2*20))∧bs=[.cells true 20 (s_.1.l.map (T.int .i64)++(s_.2.1.l.map (T.int .i64))),.cells true 20 (q.mask.l.map (T.int .i64)++(q.bits.l.map (T.int .i64))),.cells false (s_.2.2.2*20) (vecC ePat s_.2.2.1)]) ?_ ?_
 ·skip;repeat apply TW.seq
  apply TW.block;repeat apply TW.seq
  refine TW.loopT [2,3,6,7] (fun m h bs=>∃ (i:Int) (x:Ar 10) (x2:Ar 10) (l:List Pat) (n:Nat),zde k q m i x x2 l n=some s_∧(h 2=.ptr 0 0 20∧h 3=.ptr 1 0 20∧h 6=.arr 2 20 0 n n (n*20)∧h 7=.int .i64 i)∧bs=[.cells true 20 (x.l.map (T.int .i64)++(x2.l.map (T.int .i64))),.cells true 20 (q.mask.l.map (T.int .i64)++(q.bits.l.map (T.int .i64))),.cells false (n*20) (vecC ePat l)]) ?_ k _ _ ?_;rotate_left
  ·exact ⟨0,p.mask,p.bits,[],0,H1,kq hh,rfl⟩
  clear hh h H1;rintro m h bs ⟨i,x,x2,l,n,H1,hh,rfl⟩;rcases m with _|m
  ·rw [zde] at H1;cases H1
  rw [zde] at H1;repeat apply TW.seq
  refine rk [2,3,6,7,17] [] (f2 hh c2) ?_;clear hh h;intro h hh;rcases isp H1 with ⟨c3,H1⟩|⟨c3,H1⟩;rotate_left
  ·skip;repeat apply TW.seq
   refine cf (f2 hh (decide_eq_false c3)) ?_;refine xk ?_;cases H1;exact ce hh ⟨kq hh,rfl⟩
  repeat apply TW.seq
  refine ct (f2 hh (decide_eq_true c3)) ?_;repeat apply TW.seq
  refine sk ?_;repeat apply TW.seq
  apply TW.block;obtain ⟨s_2,H2,H1⟩:=zad H1;repeat apply TW.seq
  refine cu [2,3,6,7,31] 3 (fun h bs=>(h 2=.ptr 0 0 20∧h 3=.ptr 1 0 20∧h 6=.arr 2 20 0 n n (n*20)∧h 7=.int .i64 i∧h 31=.bool s_2)∧bs=[.cells true 20 (x.l.map (T.int .i64)++(x2.l.map (T.int .i64))),.cells true 20 (q.mask.l.map (T.int .i64)++(q.bits.l.map (T.int .i64))),.cells false (n*20) (vecC ePat l)]) ?_ ?_
  ·skip;obtain ⟨rBit,e4,H2⟩:=zad H2;rcases isp H2 with ⟨c5,H2⟩|⟨c5,H2⟩;rotate_left
   ·skip;obtain ⟨rBit2,e6,H2⟩:=zad H2;repeat apply TW.seq
    refine rkc [2,3,6,7,31] [] [(.int .i64 rBit,stL [.cells true 20 (x.l.map (T.int .i64)++(x2.l.map (T.int .i64))),.cells true 20 (q.mask.l.map (T.int .i64)++(q.bits.l.map (T.int .i64))),.cells false (n*20) (vecC ePat l)]),(.int .i64 rBit2,stL [.cells true 20 (x.l.map (T.int .i64)++(x2.l.map (T.int .i64))),.cells true 20 (q.mask.l.map (T.int .i64)++(q.bits.l.map (T.int .i64))),.cells false (n*20) (vecC ePat l)])] (f3 hh (decide_eq_false c5) c2) ?_ ?_
    ·exact ⟨zak.call (Pure.clr (zbu ax hx k q.mask i rBit e4 ) (by first|rfl|simp only [c2])),zak.call (Pure.clr (zbu ax hx k x i rBit2 e6 ) (by first|rfl|simp only [c2])),trivial⟩
    clear hh h;intro h hh;cases H2;exact ce hh ⟨kq hh,rfl⟩
   repeat apply TW.seq
   refine rkc [2,3,6,7,31] [] [(.int .i64 rBit,stL [.cells true 20 (x.l.map (T.int .i64)++(x2.l.map (T.int .i64))),.cells true 20 (q.mask.l.map (T.int .i64)++(q.bits.l.map (T.int .i64))),.cells false (n*20) (vecC ePat l)])] (f3 hh (decide_eq_true c5) c2) ?_ ?_
   ·exact ⟨zak.call (Pure.clr (zbu ax hx k q.mask i rBit e4 ) (by first|rfl|simp only [c2])),trivial⟩
   clear hh h;intro h hh;cases H2;exact ce hh ⟨kq hh,rfl⟩
  clear hh h;rintro h bs ⟨hh,rfl⟩;rcases isb H1 with ⟨c7,H1⟩|⟨c7,H1⟩;rotate_left
  ·skip;repeat apply TW.seq
   refine cf (f2 hh c7) ?_;repeat apply TW.seq
   refine sk ?_;obtain ⟨rBit3,e8,H1⟩:=zad H1;repeat apply TW.seq
   refine rkc [2,3,6,7,8] [] [(.int .i64 rBit3,stL [.cells true 20 (x.l.map (T.int .i64)++(x2.l.map (T.int .i64))),.cells true 20 (q.mask.l.map (T.int .i64)++(q.bits.l.map (T.int .i64))),.cells false (n*20) (vecC ePat l)])] (f3 hh c2 c7) ?_ ?_
   ·exact ⟨zak.call (Pure.clr (zbu ax hx k q.bits i rBit3 e8 ) (by first|rfl|simp only [c2,c7])),trivial⟩
   clear hh h;intro h hh;obtain ⟨rset,e9,H1⟩:=zad H1;repeat apply TW.seq
   refine rkc [2,3,6,7,8] [] [(.agg (rset.l.map (T.int .i64)),stL [.cells true 20 (x.l.map (T.int .i64)++(x2.l.map (T.int .i64))),.cells true 20 (q.mask.l.map (T.int .i64)++(q.bits.l.map (T.int .i64))),.cells false (n*20) (vecC ePat l)])] (f3 hh c2 c7) ?_ ?_
   ·exact ⟨zak.call (Pure.clr (zg5 ax hx k x i 1 rset e9 ) (by first|rfl|simp only [c2,c7])),trivial⟩
   clear hh h;intro h hh;obtain ⟨rset2,e10,H1⟩:=zad H1;repeat apply TW.seq
   refine rkc [2,3,6,7,8] [] [(.agg (rset2.l.map (T.int .i64)),stL [.cells true 20 (rset.l.map (T.int .i64)++(x2.l.map (T.int .i64))),.cells true 20 (q.mask.l.map (T.int .i64)++(q.bits.l.map (T.int .i64))),.cells false (n*20) (vecC ePat l)])] (f3 hh c2 c7) ?_ ?_
   ·exact ⟨zak.call (Pure.clr (zg5 ax hx k x2 i (IntKind.i64.wrap (1 - rBit3)) rset2 e10 ) (by first|rfl|simp only [c2,c7])),trivial⟩
   clear hh h;intro h hh;obtain ⟨g11,H1⟩:=isg H1;repeat apply TW.seq
   refine rg [] [] [.cells true 20 (rset.l.map (T.int .i64)++(rset2.l.map (T.int .i64))),.cells true 20 (q.mask.l.map (T.int .i64)++(q.bits.l.map (T.int .i64))),.cells false ((n+1)*20) (vecC ePat (l++[(⟨rset,rset2⟩:Pat)]))] (fun h=>h 2=.ptr 0 0 20∧h 3=.ptr 1 0 20∧h 6=.arr 2 20 0 (n+1) (n+1) ((n+1)*20)∧h 7=.int .i64 i∧h 8=.int .i64 rBit3) (f3 hh c2 (f3 c7 ((show vecC ePat [(⟨rset,rset2⟩:Pat)]=(((⟨rset,rset2⟩:Pat).mask).l.map (T.int .i64)++(((⟨rset,rset2⟩:Pat).bits).l.map (T.int .i64))) from znk.trans rfl)) (f2 (z08 ax) (z9p ax)))) trivial ?_;clear hh h;intro h hh;obtain ⟨rset3,e12,H1⟩:=zad H1;repeat apply TW.seq
   refine rkc [2,3,6,7] [] [(.agg (rset3.l.map (T.int .i64)),stL [.cells true 20 (rset.l.map (T.int .i64)++(rset2.l.map (T.int .i64))),.cells true 20 (q.mask.l.map (T.int .i64)++(q.bits.l.map (T.int .i64))),.cells false ((n+1)*20) (vecC ePat (l++[(⟨rset,rset2⟩:Pat)]))])] (f3 hh c2 c7) ?_ ?_
   ·exact ⟨zak.call (Pure.clr (zg5 ax hx k rset2 i rBit3 rset3 e12 ) (by first|rfl|simp only [c2,c7])),trivial⟩
   clear hh h;intro h hh;repeat apply TW.seq
   refine rk [2,3,6,7] [] (f3 hh c2 c7) ?_;clear hh h;intro h hh;exact rd m hh ⟨(IntKind.i64.wrap (i+1)),rset,rset3,(l++[(⟨rset,rset2⟩:Pat)]),(n+1),H1,kq hh,rfl⟩
  repeat apply TW.seq
  refine ct (f2 hh c7) ?_;refine xk ?_;repeat apply TW.seq
  refine rk [2,3,6,7] [] (f3 hh c2 c7) ?_;clear hh h;intro h hh;exact rd m hh ⟨(IntKind.i64.wrap (i+1)),x,x2,l,n,H1,kq hh,rfl⟩
 clear hh h;rintro h bs ⟨hh,rfl⟩;repeat apply TW.seq
 refine rk [4] [] (f2 hh c2) ?_;clear hh h;intro h hh;obtain ⟨g13,H⟩:=isg H;refine TW.freeze 4 (b:=2) (e:=20) (off:=0) (len:=s_.2.2.2) (cap:=s_.2.2.2) (M:=(s_.2.2.2*20)) (s_.2.2.1.map ePat) (kq hh) (by rfl) (by omega) (by omega) (by rw [List.drop_zero];exact zhi (fun x=>zcm x) g13) (fun t ht=>by obtain ⟨x,_,rfl⟩:=List.mem_map.1 ht;first|rfl|exact zit _|exact zcm _|exact zgs _|exact zcp _ | (rw [List.length_map];rfl)) (by rw [List.length_map];exact g13) (by omega) ?_;rw [zi0 _ _ _ (by simp only [lzA]<;>omega)];simp only [scA];refine gk [4] hh ?_;clear hh h;intro h hh;cases H;exact rt hh
def zbm (k:Nat) (l:List Pat) (q:Pat):Nat→Int→(List Pat)→Nat→Option (List Pat×Nat)
 |0,_,_,_=>none
 |m+1,i,l2,n=>(if i<(l.length:Int) then (if (0:Int)≤i∧i<(l.length:Int) then ((zju k (gx l i) q).bind fun rMinus=>(if (n+rMinus.length)*161≤1000000000 then (if rMinus.length=0 then zbm k l q m (IntKind.i64.wrap (i+1)) l2 n else zbm k l q m (IntKind.i64.wrap (i+1)) (l2++rMinus) (n+rMinus.length)) else none)) else none) else some (l2,n))
def zft (k:Nat) (l:List Pat) (q:Pat):Option (List Pat):=((zbm k l q k 0 [] 0:Option (List Pat×Nat)).bind fun s_=>(if s_.1.length=s_.2 then some s_.1 else none))
set_option maxHeartbeats 8000000 in
theorem zo4 (ax:Axs) (hx:zbe ax) (k:Nat) (l:List Pat) (q:Pat) (v:List Pat) (H:zft k l q=some v):Pure Tryz.prog (EE ax) [] 122 [lPat l,ePat q] (lPat v):=by
 rw [zft] at H;refine en [.tmp 4] 22 [0,1] (hx.no _ (by decide)) (fn122 ax) ?_;intro h hh;repeat apply TW.seq
 refine rk [0,3] [] hh ?_;clear hh h;intro h hh;repeat apply TW.seq
 refine rk [0,3,5] [] hh ?_;clear hh h;intro h hh;refine vk 5 20 [0,3,5] hh ?_;clear hh h;intro h hh;repeat apply TW.seq
 refine rk [0,3,5,6] [] hh ?_;clear hh h;intro h hh;obtain ⟨s_,H1,H⟩:=zad H;repeat apply TW.seq
 refine cu [5] 2 (fun h bs=>(h 5=.arr 1 20 0 s_.2 s_.2 (s_.2*20))∧bs=[.cells true 20 (q.mask.l.map (T.int .i64)++(q.bits.l.map (T.int .i64))),.cells false (s_.2*20) (vecC ePat s_.1)]) ?_ ?_
 ·skip;repeat apply TW.seq
  apply TW.block;repeat apply TW.seq
  refine TW.loopT [0,3,5,6] (fun m h bs=>∃ (i:Int) (l2:List Pat) (n:Nat),zbm k l q m i l2 n=some s_∧(h 0=lPat l∧h 3=.ptr 0 0 20∧h 5=.arr 1 20 0 n n (n*20)∧h 6=.int .i64 i)∧bs=[.cells true 20 (q.mask.l.map (T.int .i64)++(q.bits.l.map (T.int .i64))),.cells false (n*20) (vecC ePat l2)]) ?_ k _ _ ?_;rotate_left
  ·exact ⟨0,[],0,H1,kq hh,rfl⟩
  clear hh h H1;rintro m h bs ⟨i,l2,n,H1,hh,rfl⟩;rcases m with _|m
  ·rw [zbm] at H1;cases H1
  rw [zbm] at H1;repeat apply TW.seq
  refine rk [0,3,5,6,10] [] (f2 hh (zjb ax)) ?_;clear hh h;intro h hh;rcases isp H1 with ⟨c1,H1⟩|⟨c1,H1⟩;rotate_left
  ·skip;repeat apply TW.seq
   refine cf (f2 hh (decide_eq_false c1)) ?_;refine xk ?_;cases H1;exact ce hh ⟨kq hh,rfl⟩
  repeat apply TW.seq
  refine ct (f2 hh (decide_eq_true c1)) ?_;repeat apply TW.seq
  refine sk ?_;repeat apply TW.seq
  apply TW.block;obtain ⟨g2,H1⟩:=isg H1;obtain ⟨rMinus,e3,H1⟩:=zad H1;obtain ⟨g4,H1⟩:=isg H1;rcases isp H1 with ⟨c5,H1⟩|⟨c5,H1⟩;rotate_left
  ·skip;repeat apply TW.seq
   refine dg 6 [] [] [(lPat rMinus,stL [.cells true 20 (q.mask.l.map (T.int .i64)++(q.bits.l.map (T.int .i64))),.cells false (n*20) (vecC ePat l2)])] [.cells true 20 (q.mask.l.map (T.int .i64)++(q.bits.l.map (T.int .i64))),.cells false ((n+rMinus.length)*20) (vecC ePat (l2++rMinus))] (fun h=>h 0=lPat l∧h 3=.ptr 0 0 20∧h 5=.arr 1 20 0 (n+rMinus.length) (n+rMinus.length) ((n+rMinus.length)*20)∧h 6=.int .i64 i) (f3 hh (zai g2) (f3 (zrg ePat rMinus) (zka (f:=ePat) (e:=20) (fun x=>zcm x) rMinus) (f3 (znl (f:=ePat) (fun x=>z48 x) rMinus) (z08 ax) (f2 (z9p ax) (zjb ax))))) trivial ?_ ?_
   ·exact ⟨zak.call ((znt ax hx k (gx l i) q rMinus e3 ).call _),trivial⟩
   clear hh h;intro h hh;repeat apply TW.seq
   refine rk [0,3,5,6] [] hh ?_;clear hh h;intro h hh;exact rd m hh ⟨(IntKind.i64.wrap (i+1)),(l2++rMinus),(n+rMinus.length),H1,kq hh,rfl⟩
  repeat apply TW.seq
  refine dg 6 [] [] [(lPat rMinus,stL [.cells true 20 (q.mask.l.map (T.int .i64)++(q.bits.l.map (T.int .i64))),.cells false (n*20) (vecC ePat l2)])] [.cells true 20 (q.mask.l.map (T.int .i64)++(q.bits.l.map (T.int .i64))),.cells false (n*20) (vecC ePat l2)] (fun h=>h 0=lPat l∧h 3=.ptr 0 0 20∧h 5=.arr 1 20 0 n n (n*20)∧h 6=.int .i64 i) (f3 hh c5 (f3 (zai g2) (zrg ePat rMinus) (f3 (zka (f:=ePat) (e:=20) (fun x=>zcm x) rMinus) (znl (f:=ePat) (fun x=>z48 x) rMinus) (f3 (z08 ax) (z9p ax) (zjb ax))))) trivial ?_ ?_
  ·exact ⟨zak.call ((znt ax hx k (gx l i) q rMinus e3 ).call _),trivial⟩
  clear hh h;intro h hh;repeat apply TW.seq
  refine rk [0,3,5,6] [] (f2 hh c5) ?_;clear hh h;intro h hh;exact rd m hh ⟨(IntKind.i64.wrap (i+1)),l2,n,H1,kq hh,rfl⟩
 clear hh h;rintro h bs ⟨hh,rfl⟩;repeat apply TW.seq
 refine rk [4] [] hh ?_;clear hh h;intro h hh;obtain ⟨g6,H⟩:=isg H;refine TW.freeze 4 (b:=1) (e:=20) (off:=0) (len:=s_.2) (cap:=s_.2) (M:=(s_.2*20)) (s_.1.map ePat) (kq hh) (by rfl) (by omega) (by omega) (by rw [List.drop_zero];exact zhi (fun x=>zcm x) g6) (fun t ht=>by obtain ⟨x,_,rfl⟩:=List.mem_map.1 ht;first|rfl|exact zit _|exact zcm _|exact zgs _|exact zcp _ | (rw [List.length_map];rfl)) (by rw [List.length_map];exact g6) (by omega) ?_;rw [zi0 _ _ _ (by simp only [lzA]<;>omega)];simp only [scA];refine gk [4] hh ?_;clear hh h;intro h hh;cases H;exact rt hh
def zba (k:Nat) (a:Ar 10) (b:Ar 10):Nat→Int→Option (Int ⊕ Unit)
 |0,_=>none
 |m+1,i=>(if i<10 then (if (0:Int)≤i∧i<(10:Int) then (if (gx a.l i)<(gx b.l i) then some (.inl (-1)) else (if (gx b.l i)<(gx a.l i) then some (.inl 1) else zba k a b m (IntKind.i64.wrap (i+1)))) else none) else some (.inr ()))
def zdx (k:Nat) (a:Ar 10) (b:Ar 10):Option Int:=((zba k a b k 0:Option (Int ⊕ Unit)).bind fun o=>Sum.elim (fun r=>some r) (fun s_=>some 0) o)
set_option maxHeartbeats 8000000 in
theorem zmo (ax:Axs) (hx:zbe ax) (k:Nat) (a:Ar 10) (b:Ar 10) (v:Int) (H:zdx k a b=some v):Pure Tryz.prog (EE ax) [] 78 [.agg (a.l.map (T.int .i64)),.agg (b.l.map (T.int .i64))] (.int .i64 v):=by
 rw [zdx] at H;refine en [.tmp 4] 24 [0,1] (hx.no _ (by decide)) (fn78 ax) ?_;intro h hh;repeat apply TW.seq
 refine rk [2,3] [] hh ?_;clear hh h;intro h hh;repeat apply TW.seq
 refine rk [2,3,5] [] hh ?_;clear hh h;intro h hh;obtain ⟨o,H1,H⟩:=zad H;repeat apply TW.seq
 refine cu [] 2 (fun h bs=>∃ s_:Unit,o=.inr s_∧(True)∧bs=[.cells true 10 (a.l.map (T.int .i64)),.cells true 10 (b.l.map (T.int .i64))]) ?_ ?_
 ·skip;repeat apply TW.seq
  apply TW.block;repeat apply TW.seq
  refine TW.loopT [2,3,5] (fun m h bs=>∃ (i:Int),zba k a b m i=some o∧(h 2=.ptr 0 0 10∧h 3=.ptr 1 0 10∧h 5=.int .i64 i)∧bs=[.cells true 10 (a.l.map (T.int .i64)),.cells true 10 (b.l.map (T.int .i64))]) ?_ k _ _ ?_;rotate_left
  ·exact ⟨0,H1,kq hh,rfl⟩
  clear hh h H1;rintro m h bs ⟨i,H1,hh,rfl⟩;rcases m with _|m
  ·rw [zba] at H1;cases H1
  rw [zba] at H1;repeat apply TW.seq
  refine rk [2,3,5,7] [] hh ?_;clear hh h;intro h hh;rcases isp H1 with ⟨c1,H1⟩|⟨c1,H1⟩;rotate_left
  ·skip;repeat apply TW.seq
   refine cf (f2 hh (decide_eq_false c1)) ?_;refine xk ?_;cases H1;exact ce hh ⟨_,rfl,kq hh,rfl⟩
  repeat apply TW.seq
  refine ct (f2 hh (decide_eq_true c1)) ?_;repeat apply TW.seq
  refine sk ?_;repeat apply TW.seq
  apply TW.block;obtain ⟨g2,H1⟩:=isg H1;repeat apply TW.seq
  refine dk 6 [2,3,5,16] [] [] [] (f3 hh (arIx a g2) (arIx b g2)) trivial trivial ?_;clear hh h;intro h hh;rcases isp H1 with ⟨c3,H1⟩|⟨c3,H1⟩;rotate_left
  ·skip;repeat apply TW.seq
   refine cf (f2 hh (decide_eq_false c3)) ?_;repeat apply TW.seq
   refine sk ?_;repeat apply TW.seq
   refine dk 6 [2,3,5,23] [] [] [] (f3 hh (arIx a g2) (arIx b g2)) trivial trivial ?_;clear hh h;intro h hh;rcases isp H1 with ⟨c4,H1⟩|⟨c4,H1⟩;rotate_left
   ·skip;repeat apply TW.seq
    refine cf (f2 hh (decide_eq_false c4)) ?_;repeat apply TW.seq
    refine sk ?_;repeat apply TW.seq
    refine rk [2,3,5] [] hh ?_;clear hh h;intro h hh;exact rd m hh ⟨(IntKind.i64.wrap (i+1)),H1,kq hh,rfl⟩
   repeat apply TW.seq
   refine ct (f2 hh (decide_eq_true c4)) ?_;repeat apply TW.seq
   refine rk [4] [] hh ?_;clear hh h;intro h hh;cases H1;obtain rfl:=sinl H;exact rt hh
  repeat apply TW.seq
  refine ct (f2 hh (decide_eq_true c3)) ?_;repeat apply TW.seq
  refine rk [4] [] hh ?_;clear hh h;intro h hh;cases H1;obtain rfl:=sinl H;exact rt hh
 clear hh h;rintro h bs ⟨s_,rfl,hh,rfl⟩;replace H:=sinr H;repeat apply TW.seq
 refine rk [4] [] hh ?_;clear hh h;intro h hh;cases H;exact rt hh
def zch (k:Nat) (l:List Pat):Nat→(List Pat)→Int→Option (List Pat)
 |0,_,_=>none
 |m+1,left,i=>(if i<(l.length:Int) then (if (0:Int)≤i∧i<(l.length:Int) then ((zft k left (gx l i)).bind fun rminusEach=>zch k l m rminusEach (IntKind.i64.wrap (i+1))) else none) else some left)
def zbt (k:Nat) (s_:List Pat):Nat→Int→(Ar 10)→Option (Ar 10)
 |0,_,_=>none
 |m+1,i2,x=>(if i2<(s_.length:Int) then (if (0:Int)≤i2∧i2<(s_.length:Int) then ((zdx k ((gx s_ i2).bits) x).bind fun rCompareHeads=>(if rCompareHeads<0 then zbt k s_ m (IntKind.i64.wrap (i2+1)) ((gx s_ i2).bits) else zbt k s_ m (IntKind.i64.wrap (i2+1)) x)) else none) else some x)
def zhm (k:Nat) (p:Pat) (l:List Pat):Option (Ar 10×Bool):=((zch k l k [p] 0:Option (List Pat)).bind fun s_=>(if (s_.length:Int)=0 then some ((zA 10),false) else (if (0:Int)≤0∧0<(s_.length:Int) then ((zbt k s_ k 1 ((gx s_ 0).bits):Option (Ar 10)).bind fun s_2=>some (s_2,true)) else none)))
set_option maxHeartbeats 8000000 in
theorem zr1 (ax:Axs) (hx:zbe ax) (k:Nat) (p:Pat) (l:List Pat) (v:Ar 10×Bool) (H:zhm k p l=some v):Pure Tryz.prog (EE ax) [] 69 [ePat p,lPat l] (tupT [.agg (v.1.l.map (T.int .i64)),.bool v.2]):=by
 rw [zhm] at H;refine enN [.cell 4 39,.tmp 5] 52 [0,1] (hx.no _ (by decide)) (fn69 ax) ?_;intro h hh;repeat apply TW.seq
 refine rk [1,2,4] [] hh ?_;clear hh h;intro h hh;repeat apply TW.seq
 refine rk [1,4,6] [] (f2 hh (z08 ax)) ?_;clear hh h;intro h hh;repeat apply TW.seq
 refine rk [1,4,6,7] [] hh ?_;clear hh h;intro h hh;obtain ⟨s_,H1,H⟩:=zad H;repeat apply TW.seq
 refine cu [4,6] 2 (fun h bs=>(h 4=.ptr 1 0 10∧h 6=lPat s_)∧bs=[.cells true 20 (p.mask.l.map (T.int .i64)++(p.bits.l.map (T.int .i64))),.cells true 10 ((zA 10).l.map (T.int .i64))]) ?_ ?_
 ·skip;repeat apply TW.seq
  apply TW.block;repeat apply TW.seq
  refine TW.loopT [1,4,6,7] (fun m h bs=>∃ (left:List Pat) (i:Int),zch k l m left i=some s_∧(h 1=lPat l∧h 4=.ptr 1 0 10∧h 6=lPat left∧h 7=.int .i64 i)∧bs=[.cells true 20 (p.mask.l.map (T.int .i64)++(p.bits.l.map (T.int .i64))),.cells true 10 ((zA 10).l.map (T.int .i64))]) ?_ k _ _ ?_;rotate_left
  ·exact ⟨[p],0,H1,kq hh,rfl⟩
  clear hh h H1;rintro m h bs ⟨left,i,H1,hh,rfl⟩;rcases m with _|m
  ·rw [zch] at H1;cases H1
  rw [zch] at H1;repeat apply TW.seq
  refine rk [1,4,6,7,15] [] (f2 hh (zjb ax)) ?_;clear hh h;intro h hh;rcases isp H1 with ⟨c1,H1⟩|⟨c1,H1⟩;rotate_left
  ·skip;repeat apply TW.seq
   refine cf (f2 hh (decide_eq_false c1)) ?_;refine xk ?_;cases H1;exact ce hh ⟨kq hh,rfl⟩
  repeat apply TW.seq
  refine ct (f2 hh (decide_eq_true c1)) ?_;repeat apply TW.seq
  refine sk ?_;repeat apply TW.seq
  apply TW.block;obtain ⟨g2,H1⟩:=isg H1;obtain ⟨rminusEach,e3,H1⟩:=zad H1;repeat apply TW.seq
  refine rkc [1,4,6,7] [] [(lPat rminusEach,stL [.cells true 20 (p.mask.l.map (T.int .i64)++(p.bits.l.map (T.int .i64))),.cells true 10 ((zA 10).l.map (T.int .i64))])] (f3 hh (zai g2) (zjb ax)) ?_ ?_
  ·exact ⟨zak.call ((zo4 ax hx k left (gx l i) rminusEach e3 ).call _),trivial⟩
  clear hh h;intro h hh;repeat apply TW.seq
  refine rk [1,4,6,7] [] hh ?_;clear hh h;intro h hh;exact rd m hh ⟨rminusEach,(IntKind.i64.wrap (i+1)),H1,kq hh,rfl⟩
 clear hh h;rintro h bs ⟨hh,rfl⟩;repeat apply TW.seq
 refine rk [4,6,26] [] (f2 hh (zjb ax)) ?_;clear hh h;intro h hh;rcases isp H with ⟨c4,H⟩|⟨c4,H⟩;rotate_left
 ·skip;repeat apply TW.seq
  refine cf (f2 hh (decide_eq_false c4)) ?_;repeat apply TW.seq
  refine sk ?_;obtain ⟨g5,H⟩:=isg H;repeat apply TW.seq
  refine rk [4,6,8] [] (f3 hh (zai g5) (f2 (ycm ax) (zjb ax))) ?_;clear hh h;intro h hh;repeat apply TW.seq
  refine rk [4,6,8,9] [] hh ?_;clear hh h;intro h hh;obtain ⟨s_2,H1,H⟩:=zad H;repeat apply TW.seq
  refine cu [4,8] 3 (fun h bs=>(h 4=.ptr 1 0 10∧h 8=.ptr 2 0 10)∧bs=[.cells true 20 (p.mask.l.map (T.int .i64)++(p.bits.l.map (T.int .i64))),.cells true 10 ((zA 10).l.map (T.int .i64)),.cells true 10 (s_2.l.map (T.int .i64))]) ?_ ?_
  ·skip;repeat apply TW.seq
   apply TW.block;repeat apply TW.seq
   refine TW.loopT [4,6,8,9] (fun m h bs=>∃ (i2:Int) (x:Ar 10),zbt k s_ m i2 x=some s_2∧(h 4=.ptr 1 0 10∧h 6=lPat s_∧h 8=.ptr 2 0 10∧h 9=.int .i64 i2)∧bs=[.cells true 20 (p.mask.l.map (T.int .i64)++(p.bits.l.map (T.int .i64))),.cells true 10 ((zA 10).l.map (T.int .i64)),.cells true 10 (x.l.map (T.int .i64))]) ?_ k _ _ ?_;rotate_left
   ·exact ⟨1,((gx s_ 0).bits),H1,kq hh,rfl⟩
   clear hh h H1;rintro m h bs ⟨i2,x,H1,hh,rfl⟩;rcases m with _|m
   ·rw [zbt] at H1;cases H1
   rw [zbt] at H1;repeat apply TW.seq
   refine rk [4,6,8,9,35] [] (f2 hh (zjb ax)) ?_;clear hh h;intro h hh;rcases isp H1 with ⟨c6,H1⟩|⟨c6,H1⟩;rotate_left
   ·skip;repeat apply TW.seq
    refine cf (f2 hh (decide_eq_false c6)) ?_;refine xk ?_;cases H1;exact ce hh ⟨kq hh,rfl⟩
   repeat apply TW.seq
   refine ct (f2 hh (decide_eq_true c6)) ?_;repeat apply TW.seq
   refine sk ?_;repeat apply TW.seq
   apply TW.block;obtain ⟨g7,H1⟩:=isg H1;obtain ⟨rCompareHeads,e8,H1⟩:=zad H1;repeat apply TW.seq
   refine dk 6 [4,6,8,9,45] [] [] [(.int .i64 rCompareHeads,stL [.cells true 20 (p.mask.l.map (T.int .i64)++(p.bits.l.map (T.int .i64))),.cells true 10 ((zA 10).l.map (T.int .i64)),.cells true 10 (x.l.map (T.int .i64))])] (f3 hh (zai g7) (f2 (ycm ax) (zjb ax))) trivial ?_ ?_
   ·exact ⟨zak.call ((zmo ax hx k ((gx s_ i2).bits) x rCompareHeads e8 ).call _),trivial⟩
   clear hh h;intro h hh;rcases isp H1 with ⟨c9,H1⟩|⟨c9,H1⟩;rotate_left
   ·skip;repeat apply TW.seq
    refine cf (f2 hh (decide_eq_false c9)) ?_;repeat apply TW.seq
    refine sk ?_;repeat apply TW.seq
    refine rk [4,6,8,9] [] hh ?_;clear hh h;intro h hh;exact rd m hh ⟨(IntKind.i64.wrap (i2+1)),x,H1,kq hh,rfl⟩
   repeat apply TW.seq
   refine ct (f2 hh (decide_eq_true c9)) ?_;repeat apply TW.seq
   refine rk [4,6,8,9] [] (f3 hh (zai g7) (f2 (ycm ax) (zjb ax))) ?_;clear hh h;intro h hh;repeat apply TW.seq
   refine rk [4,6,8,9] [] hh ?_;clear hh h;intro h hh;exact rd m hh ⟨(IntKind.i64.wrap (i2+1)),((gx s_ i2).bits),H1,kq hh,rfl⟩
  clear hh h;rintro h bs ⟨hh,rfl⟩;repeat apply TW.seq
  refine rk [4,5] [] hh ?_;clear hh h;intro h hh;cases H;exact rtc hh
 repeat apply TW.seq
 refine ct (f2 hh (decide_eq_true c4)) ?_;repeat apply TW.seq
 refine rk [4,5] [] (f2 hh (bz39 ax)) ?_;clear hh h;intro h hh;cases H;exact rtc hh
def zcs (k:Nat) (t:List Rule) (k_:Int):Option (Ar 10×Bool):=(((if k_<0 then some true else some (decide ((t.length:Int)≤k_))):Option Bool).bind fun s_=>(if s_=true then some ((zA 10),false) else (if (0:Int)≤k_∧k_<(t.length:Int) then ((zg4 k t k_).bind fun rbefore=>((zhm k ((gx t k_).mat) rbefore).bind fun rOutside=>some (rOutside.1,rOutside.2))) else none)))
set_option maxHeartbeats 8000000 in
theorem zld (ax:Axs) (hx:zbe ax) (k:Nat) (t:List Rule) (k_:Int) (v:Ar 10×Bool) (H:zcs k t k_=some v):Pure Tryz.prog (EE ax) [] 29 [zbp t,.int .i64 k_] (tupT [.agg (v.1.l.map (T.int .i64)),.bool v.2]):=by
 rw [zcs] at H;refine enN [.cell 4 39,.tmp 5] 26 [0,1] (hx.no _ (by decide)) (fn29 ax) ?_;intro h hh;repeat apply TW.seq
 refine rk [0,1,4] [] hh ?_;clear hh h;intro h hh;obtain ⟨s_,H1,H⟩:=zad H;repeat apply TW.seq
 refine cu [0,1,4,13] 1 (fun h bs=>(h 0=zbp t∧h 1=.int .i64 k_∧h 4=.ptr 0 0 10∧h 13=.bool s_)∧bs=[.cells true 10 ((zA 10).l.map (T.int .i64))]) ?_ ?_
 ·skip;rcases isp H1 with ⟨c1,H1⟩|⟨c1,H1⟩;rotate_left
  ·skip;repeat apply TW.seq
   refine rk [0,1,4,13] [] (f2 hh (decide_eq_false c1)) ?_;clear hh h;intro h hh;cases H1;exact ce hh ⟨kq hh,rfl⟩
  repeat apply TW.seq
  refine rk [0,1,4,13] [] (f2 hh (decide_eq_true c1)) ?_;clear hh h;intro h hh;cases H1;exact ce hh ⟨kq hh,rfl⟩
 clear hh h;rintro h bs ⟨hh,rfl⟩;rcases isb H with ⟨c2,H⟩|⟨c2,H⟩;rotate_left
 ·skip;repeat apply TW.seq
  refine cf (f2 hh c2) ?_;repeat apply TW.seq
  refine sk ?_;obtain ⟨g3,H⟩:=isg H;obtain ⟨rbefore,e4,H⟩:=zad H;obtain ⟨rOutside,e5,H⟩:=zad H;repeat apply TW.seq
  refine dk 8 [4,5] [lPat rbefore] [] [(.tup [.agg (rOutside.1.l.map (T.int .i64)),.bool rOutside.2],stL [.cells true 10 ((zA 10).l.map (T.int .i64))])] (f3 hh c2 (zai g3)) ?_ ?_ ?_
  ·exact ⟨Pure.clr (zms ax hx k t k_ rbefore e4 ) (by first|rfl|simp only [c2]),trivial⟩
  ·exact ⟨zak.call (Pure.clr (zr1 ax hx k ((gx t k_).mat) rbefore rOutside e5 ) (by first|rfl|simp only [c2])),trivial⟩
  clear hh h;intro h hh;cases H;exact rtc hh
 repeat apply TW.seq
 refine ct (f2 hh c2) ?_;repeat apply TW.seq
 refine rk [4,5] [] (f3 hh c2 (bz39 ax)) ?_;clear hh h;intro h hh;cases H;exact rtc hh
def zbh (k:Nat) (t:List Rule):Nat→Int→(List Int)→Nat→Option (List Int×Nat)
 |0,_,_,_=>none
 |m+1,k_,l,n=>(if k_<(t.length:Int) then ((zcs k t k_).bind fun rHandles=>(if rHandles.2=true then zbh k t m (IntKind.i64.wrap (k_+1)) l n else (if (n+1)*9≤1000000000 then zbh k t m (IntKind.i64.wrap (k_+1)) (l++[k_]) (n+1) else none))) else some (l,n))
def zdc (k:Nat) (t:List Rule):Option (List Int):=((zbh k t k 0 [] 0:Option (List Int×Nat)).bind fun s_=>(if s_.1.length=s_.2 then some s_.1 else none))
set_option maxHeartbeats 8000000 in
theorem zf0 (ax:Axs) (hx:zbe ax) (k:Nat) (t:List Rule) (v:List Int) (H:zdc k t=some v):Pure Tryz.prog (EE ax) [] 32 [zbp t] (ints v):=by
 rw [zdc] at H;refine en [.tmp 2] 26 [0] (hx.no _ (by decide)) (fn32 ax) ?_;intro h hh;repeat apply TW.seq
 refine rk [0] [] hh ?_;clear hh h;intro h hh;repeat apply TW.seq
 refine rk [0,3] [] hh ?_;clear hh h;intro h hh;refine vk 3 1 [0,3] hh ?_;clear hh h;intro h hh;repeat apply TW.seq
 refine rk [0,3,4] [] hh ?_;clear hh h;intro h hh;obtain ⟨s_,H1,H⟩:=zad H;repeat apply TW.seq
 refine cu [3] 1 (fun h bs=>(h 3=.arr 0 1 0 s_.2 s_.2 s_.2)∧bs=[.cells false s_.2 (s_.1.map (T.int .i64))]) ?_ ?_
 ·skip;repeat apply TW.seq
  apply TW.block;repeat apply TW.seq
  refine TW.loopT [0,3,4] (fun m h bs=>∃ (k_:Int) (l:List Int) (n:Nat),zbh k t m k_ l n=some s_∧(h 0=zbp t∧h 3=.arr 0 1 0 n n n∧h 4=.int .i64 k_)∧bs=[.cells false n (l.map (T.int .i64))]) ?_ k _ _ ?_;rotate_left
  ·exact ⟨0,[],0,H1,kq hh,rfl⟩
  clear hh h H1;rintro m h bs ⟨k_,l,n,H1,hh,rfl⟩;rcases m with _|m
  ·rw [zbh] at H1;cases H1
  rw [zbh] at H1;repeat apply TW.seq
  refine rk [0,3,4,10] [] hh ?_;clear hh h;intro h hh;rcases isp H1 with ⟨c1,H1⟩|⟨c1,H1⟩;rotate_left
  ·skip;repeat apply TW.seq
   refine cf (f2 hh (decide_eq_false c1)) ?_;refine xk ?_;cases H1;exact ce hh ⟨kq hh,rfl⟩
  repeat apply TW.seq
  refine ct (f2 hh (decide_eq_true c1)) ?_;repeat apply TW.seq
  refine sk ?_;repeat apply TW.seq
  apply TW.block;obtain ⟨rHandles,e2,H1⟩:=zad H1;repeat apply TW.seq
  refine rkc [0,3,4,6] [] [(.tup [.agg (rHandles.1.l.map (T.int .i64)),.bool rHandles.2],stL [.cells false n (l.map (T.int .i64))])] hh ?_ ?_
  ·exact ⟨zak.call ((zld ax hx k t k_ rHandles e2 ).call _),trivial⟩
  clear hh h;intro h hh;repeat apply TW.seq
  refine rk [0,3,4,20] [] hh ?_;clear hh h;intro h hh;rcases isb H1 with ⟨c3,H1⟩|⟨c3,H1⟩;rotate_left
  ·skip;repeat apply TW.seq
   refine ct (f2 hh c3) ?_;obtain ⟨g4,H1⟩:=isg H1;repeat apply TW.seq
   refine rg [] [] [.cells false (n+1) ((l++[k_]).map (T.int .i64)),.cells true 10 (rHandles.1.l.map (T.int .i64))] (fun h=>h 0=zbp t∧h 3=.arr 0 1 0 (n+1) (n+1) (n+1)∧h 4=.int .i64 k_) (f2 hh c3) trivial ?_;clear hh h;intro h hh;repeat apply TW.seq
   refine rk [0,3,4] [] (f2 hh c3) ?_;clear hh h;intro h hh;exact rd m hh ⟨(IntKind.i64.wrap (k_+1)),(l++[k_]),(n+1),H1,kq hh,rfl⟩
  repeat apply TW.seq
  refine cf (f2 hh c3) ?_;repeat apply TW.seq
  refine sk ?_;repeat apply TW.seq
  refine rk [0,3,4] [] (f2 hh c3) ?_;clear hh h;intro h hh;exact rd m hh ⟨(IntKind.i64.wrap (k_+1)),l,n,H1,kq hh,rfl⟩
 clear hh h;rintro h bs ⟨hh,rfl⟩;repeat apply TW.seq
 refine rk [2] [] hh ?_;clear hh h;intro h hh;obtain ⟨g5,H⟩:=isg H;refine TW.freeze 2 (b:=0) (e:=1) (off:=0) (len:=s_.2) (cap:=s_.2) (M:=s_.2) (s_.1.map (T.int .i64)) (kq hh) (by rfl) (by omega) (by omega) (by rw [List.drop_zero,Nat.mul_one,zhs (fun _=>rfl),List.take_of_length_le (by rw [List.length_map];omega)]) (fun t ht=>by obtain ⟨x,_,rfl⟩:=List.mem_map.1 ht;first|rfl|exact zit _|exact zcm _|exact zgs _|exact zcp _ | (rw [List.length_map];rfl)) (by rw [List.length_map];exact g5) (by omega) ?_;rw [zi0 _ _ _ (by simp only [lzA]<;>omega)];simp only [scA];refine gk [2] hh ?_;clear hh h;intro h hh;cases H;exact rt hh
def zbg (k:Nat) (l:List Int) (k_:Int):Nat→Bool→Int→Option Bool
 |0,_,_=>none
 |m+1,gone,i=>(if i<(l.length:Int) then (if gone=true then zbg k l k_ m true (IntKind.i64.wrap (i+1)) else (if (0:Int)≤i∧i<(l.length:Int) then zbg k l k_ m (decide ((gx l i)=k_)) (IntKind.i64.wrap (i+1)) else none)) else some gone)
def zcg (k:Nat) (t:List Rule) (l:List Int):Nat→Int→(List Rule)→Nat→Option (List Rule×Nat)
 |0,_,_,_=>none
 |m+1,k_,l2,n=>(if k_<(t.length:Int) then ((((zbg k l k_ k false 0:Option Bool).bind fun s_3=>(if s_3=true then some (l2,n) else (if (0:Int)≤k_∧k_<(t.length:Int) then (if (n+1)*201≤1000000000 then some (l2++[gx t k_],n+1) else none) else none))):Option (List Rule×Nat)).bind fun s_2=>zcg k t l m (IntKind.i64.wrap (k_+1)) s_2.1 s_2.2) else some (l2,n))
def zd3 (k:Nat) (t:List Rule) (l:List Int):Option (List Rule):=((zcg k t l k 0 [] 0:Option (List Rule×Nat)).bind fun s_=>(if s_.1.length=s_.2 then some s_.1 else none))
set_option maxHeartbeats 8000000 in
theorem zlc (ax:Axs) (hx:zbe ax) (k:Nat) (t:List Rule) (l:List Int) (v:List Rule) (H:zd3 k t l=some v):Pure Tryz.prog (EE ax) [] 34 [zbp t,ints l] (zbp v):=by
 rw [zd3] at H;refine en [.tmp 4] 40 [0,1] (hx.no _ (by decide)) (fn34 ax) ?_;intro h hh;repeat apply TW.seq
 refine rk [0,1] [] hh ?_;clear hh h;intro h hh;repeat apply TW.seq
 refine rk [0,1,5] [] hh ?_;clear hh h;intro h hh;refine vk 5 23 [0,1,5] hh ?_;clear hh h;intro h hh;repeat apply TW.seq
 refine rk [0,1,5,6] [] hh ?_;clear hh h;intro h hh;obtain ⟨s_,H1,H⟩:=zad H;repeat apply TW.seq
 refine cu [5] 1 (fun h bs=>(h 5=.arr 0 23 0 s_.2 s_.2 (s_.2*23))∧bs=[.cells false (s_.2*23) (vecC zb5 s_.1)]) ?_ ?_
 ·skip;repeat apply TW.seq
  apply TW.block;repeat apply TW.seq
  refine TW.loopT [0,1,5,6] (fun m h bs=>∃ (k_:Int) (l2:List Rule) (n:Nat),zcg k t l m k_ l2 n=some s_∧(h 0=zbp t∧h 1=ints l∧h 5=.arr 0 23 0 n n (n*23)∧h 6=.int .i64 k_)∧bs=[.cells false (n*23) (vecC zb5 l2)]) ?_ k _ _ ?_;rotate_left
  ·exact ⟨0,[],0,H1,kq hh,rfl⟩
  clear hh h H1;rintro m h bs ⟨k_,l2,n,H1,hh,rfl⟩;rcases m with _|m
  ·rw [zcg] at H1;cases H1
  rw [zcg] at H1;repeat apply TW.seq
  refine rk [0,1,5,6,12] [] hh ?_;clear hh h;intro h hh;rcases isp H1 with ⟨c1,H1⟩|⟨c1,H1⟩;rotate_left
  ·skip;repeat apply TW.seq
   refine cf (f2 hh (decide_eq_false c1)) ?_;refine xk ?_;cases H1;exact ce hh ⟨kq hh,rfl⟩
  repeat apply TW.seq
  refine ct (f2 hh (decide_eq_true c1)) ?_;repeat apply TW.seq
  refine sk ?_;obtain ⟨s_2,H2,H1⟩:=zad H1;repeat apply TW.seq
  refine cu [0,1,5,6] 1 (fun h bs=>(h 0=zbp t∧h 1=ints l∧h 5=.arr 0 23 0 s_2.2 s_2.2 (s_2.2*23)∧h 6=.int .i64 k_)∧bs=[.cells false (s_2.2*23) (vecC zb5 s_2.1)]) ?_ ?_
  ·skip;repeat apply TW.seq
   apply TW.block;repeat apply TW.seq
   refine rk [0,1,5,6,7] [] hh ?_;clear hh h;intro h hh;repeat apply TW.seq
   refine rk [0,1,5,6,7,8] [] hh ?_;clear hh h;intro h hh;obtain ⟨s_3,H3,H2⟩:=zad H2;repeat apply TW.seq
   refine cu [0,1,5,6,7] 1 (fun h bs=>(h 0=zbp t∧h 1=ints l∧h 5=.arr 0 23 0 n n (n*23)∧h 6=.int .i64 k_∧h 7=.bool s_3)∧bs=[.cells false (n*23) (vecC zb5 l2)]) ?_ ?_
   ·skip;repeat apply TW.seq
    apply TW.block;repeat apply TW.seq
    refine TW.loopT [0,1,5,6,7,8] (fun m h bs=>∃ (gone:Bool) (i:Int),zbg k l k_ m gone i=some s_3∧(h 0=zbp t∧h 1=ints l∧h 5=.arr 0 23 0 n n (n*23)∧h 6=.int .i64 k_∧h 7=.bool gone∧h 8=.int .i64 i)∧bs=[.cells false (n*23) (vecC zb5 l2)]) ?_ k _ _ ?_;rotate_left
    ·exact ⟨false,0,H3,kq hh,rfl⟩
    clear hh h H3;rintro m h bs ⟨gone,i,H3,hh,rfl⟩;rcases m with _|m
    ·rw [zbg] at H3;cases H3
    rw [zbg] at H3;repeat apply TW.seq
    refine rk [0,1,5,6,7,8,18] [] hh ?_;clear hh h;intro h hh;rcases isp H3 with ⟨c2,H3⟩|⟨c2,H3⟩;rotate_left
    ·skip;repeat apply TW.seq
     refine cf (f2 hh (decide_eq_false c2)) ?_;refine xk ?_;cases H3;exact ce hh ⟨kq hh,rfl⟩
    repeat apply TW.seq
    refine ct (f2 hh (decide_eq_true c2)) ?_;repeat apply TW.seq
    refine sk ?_;repeat apply TW.seq
    apply TW.block;rcases isb H3 with ⟨c3,H3⟩|⟨c3,H3⟩;rotate_left
    ·skip;obtain ⟨g4,H3⟩:=isg H3;repeat apply TW.seq
     refine rk [0,1,5,6,7,8] [] (f3 hh c3 (zai g4)) ?_;clear hh h;intro h hh;repeat apply TW.seq
     refine rk [0,1,5,6,7,8] [] (f2 hh c3) ?_;clear hh h;intro h hh;exact rd m hh ⟨(decide ((gx l i)=k_)),(IntKind.i64.wrap (i+1)),H3,kq hh,rfl⟩
    repeat apply TW.seq
    refine rk [0,1,5,6,7,8] [] (f2 hh c3) ?_;clear hh h;intro h hh;repeat apply TW.seq
    refine rk [0,1,5,6,7,8] [] (f2 hh c3) ?_;clear hh h;intro h hh;exact rd m hh ⟨true,(IntKind.i64.wrap (i+1)),H3,kq hh,rfl⟩
   clear hh h;rintro h bs ⟨hh,rfl⟩;repeat apply TW.seq
   refine rk [0,1,5,6,31] [] hh ?_;clear hh h;intro h hh;rcases isb H2 with ⟨c5,H2⟩|⟨c5,H2⟩;rotate_left
   ·skip;repeat apply TW.seq
    refine ct (f2 hh c5) ?_;obtain ⟨g6,H2⟩:=isg H2;obtain ⟨g7,H2⟩:=isg H2;repeat apply TW.seq
    refine rg [] [] [.cells false ((n+1)*23) (vecC zb5 (l2++[gx t k_]))] (fun h=>h 0=zbp t∧h 1=ints l∧h 5=.arr 0 23 0 (n+1) (n+1) ((n+1)*23)∧h 6=.int .i64 k_) (f3 hh c5 (f3 (zai g6) ((show vecC zb5 [gx t k_]=(T.int .i64 ((gx t k_).prio) :: ((((gx t k_).mat).mask).l.map (T.int .i64)++((((gx t k_).mat).bits).l.map (T.int .i64)++[T.int .i64 ((gx t k_).step),zdr ((gx t k_).outs)]))) from znk.trans rfl)) (f2 (el28 ax) (sr28 ax)))) trivial ?_;clear hh h;intro h hh;cases H2;exact ce hh ⟨kq hh,rfl⟩
   repeat apply TW.seq
   refine cf (f2 hh c5) ?_;repeat apply TW.seq
   refine sk ?_;cases H2;exact ce hh ⟨kq hh,rfl⟩
  clear hh h;rintro h bs ⟨hh,rfl⟩;repeat apply TW.seq
  refine rk [0,1,5,6] [] hh ?_;clear hh h;intro h hh;exact rd m hh ⟨(IntKind.i64.wrap (k_+1)),s_2.1,s_2.2,H1,kq hh,rfl⟩
 clear hh h;rintro h bs ⟨hh,rfl⟩;repeat apply TW.seq
 refine rk [4] [] hh ?_;clear hh h;intro h hh;obtain ⟨g8,H⟩:=isg H;refine TW.freeze 4 (b:=0) (e:=23) (off:=0) (len:=s_.2) (cap:=s_.2) (M:=(s_.2*23)) (s_.1.map zb5) (kq hh) (by rfl) (by omega) (by omega) (by rw [List.drop_zero];exact zhi (fun x=>zcp x) g8) (fun t ht=>by obtain ⟨x,_,rfl⟩:=List.mem_map.1 ht;first|rfl|exact zit _|exact zcm _|exact zgs _|exact zcp _ | (rw [List.length_map];rfl)) (by rw [List.length_map];exact g8) (by omega) ?_;rw [zi0 _ _ _ (by simp only [lzA]<;>omega)];simp only [scA];refine gk [4] hh ?_;clear hh h;intro h hh;cases H;exact rt hh
def zb0 (k:Nat) (l:List Pat):Nat→Int→Option (Bool ⊕ Unit)
 |0,_=>none
 |m+1,i=>(if i<(l.length:Int) then (if (0:Int)≤i∧i<(l.length:Int) then ((zg7 k (gx l i)).bind fun rRight=>(if rRight=true then zb0 k l m (IntKind.i64.wrap (i+1)) else some (.inl false))) else none) else some (.inr ()))
def zgg (k:Nat) (l:List Pat):Option Bool:=((zb0 k l k 0:Option (Bool ⊕ Unit)).bind fun o=>Sum.elim (fun r=>some r) (fun s_=>some true) o)
set_option maxHeartbeats 8000000 in
theorem zqr (ax:Axs) (hx:zbe ax) (k:Nat) (l:List Pat) (v:Bool) (H:zgg k l=some v):Pure Tryz.prog (EE ax) [] 138 [lPat l] (.bool v):=by
 rw [zgg] at H;refine en [.tmp 2] 18 [0] (hx.no _ (by decide)) (fn138 ax) ?_;intro h hh;repeat apply TW.seq
 refine rk [0] [] hh ?_;clear hh h;intro h hh;repeat apply TW.seq
 refine rk [0,3] [] hh ?_;clear hh h;intro h hh;obtain ⟨o,H1,H⟩:=zad H;repeat apply TW.seq
 refine cu [] 0 (fun h bs=>∃ s_:Unit,o=.inr s_∧(True)∧bs=[]) ?_ ?_
 ·skip;repeat apply TW.seq
  apply TW.block;repeat apply TW.seq
  refine TW.loopT [0,3] (fun m h bs=>∃ (i:Int),zb0 k l m i=some o∧(h 0=lPat l∧h 3=.int .i64 i)∧bs=[]) ?_ k _ _ ?_;rotate_left
  ·exact ⟨0,H1,kq hh,rfl⟩
  clear hh h H1;rintro m h bs ⟨i,H1,hh,rfl⟩;rcases m with _|m
  ·rw [zb0] at H1;cases H1
  rw [zb0] at H1;repeat apply TW.seq
  refine rk [0,3,8] [] (f2 hh (zjb ax)) ?_;clear hh h;intro h hh;rcases isp H1 with ⟨c1,H1⟩|⟨c1,H1⟩;rotate_left
  ·skip;repeat apply TW.seq
   refine cf (f2 hh (decide_eq_false c1)) ?_;refine xk ?_;cases H1;exact ce hh ⟨_,rfl,kq hh,rfl⟩
  repeat apply TW.seq
  refine ct (f2 hh (decide_eq_true c1)) ?_;repeat apply TW.seq
  refine sk ?_;repeat apply TW.seq
  apply TW.block;obtain ⟨g2,H1⟩:=isg H1;obtain ⟨rRight,e3,H1⟩:=zad H1;repeat apply TW.seq
  refine rkc [0,3,4] [] [(.bool rRight,stL [])] (f3 hh (zai g2) (zjb ax)) ?_ ?_
  ·exact ⟨zak.call ((zkd ax hx k (gx l i) rRight e3 ).call _),trivial⟩
  clear hh h;intro h hh;repeat apply TW.seq
  refine rk [0,3,17] [] hh ?_;clear hh h;intro h hh;rcases isb H1 with ⟨c4,H1⟩|⟨c4,H1⟩;rotate_left
  ·skip;repeat apply TW.seq
   refine ct (f2 hh c4) ?_;repeat apply TW.seq
   refine rk [2] [] (f2 hh c4) ?_;clear hh h;intro h hh;cases H1;obtain rfl:=sinl H;exact rt hh
  repeat apply TW.seq
  refine cf (f2 hh c4) ?_;repeat apply TW.seq
  refine sk ?_;repeat apply TW.seq
  refine rk [0,3] [] (f2 hh c4) ?_;clear hh h;intro h hh;exact rd m hh ⟨(IntKind.i64.wrap (i+1)),H1,kq hh,rfl⟩
 clear hh h;rintro h bs ⟨s_,rfl,hh,rfl⟩;replace H:=sinr H;repeat apply TW.seq
 refine rk [2] [] hh ?_;clear hh h;intro h hh;cases H;exact rt hh
def zd6 (k:Nat) (p:Pat):Nat→Int→Int→Option Int
 |0,_,_=>none
 |m+1,n,i=>(if i<160 then ((zdt k p.mask i).bind fun rBit=>zd6 k p m (IntKind.i64.wrap ((IntKind.i64.wrap (n+1)) - rBit)) (IntKind.i64.wrap (i+1))) else some n)
def zlf (k:Nat) (p:Pat):Option Int:=((zd6 k p k 0 0:Option Int).bind fun s_=>some s_)
set_option maxHeartbeats 8000000 in
theorem zy8 (ax:Axs) (hx:zbe ax) (k:Nat) (p:Pat) (v:Int) (H:zlf k p=some v):Pure Tryz.prog (EE ax) [] 149 [ePat p] (.int .i64 v):=by
 rw [zlf] at H;refine en [.tmp 2] 17 [0] (hx.no _ (by decide)) (fn149 ax) ?_;intro h hh;repeat apply TW.seq
 refine rk [1] [] hh ?_;clear hh h;intro h hh;repeat apply TW.seq
 refine rk [1,3] [] hh ?_;clear hh h;intro h hh;repeat apply TW.seq
 refine rk [1,3,4] [] hh ?_;clear hh h;intro h hh;obtain ⟨s_,H1,H⟩:=zad H;repeat apply TW.seq
 refine cu [3] 1 (fun h bs=>(h 3=.int .i64 s_)∧bs=[.cells true 20 (p.mask.l.map (T.int .i64)++(p.bits.l.map (T.int .i64)))]) ?_ ?_
 ·skip;repeat apply TW.seq
  apply TW.block;repeat apply TW.seq
  refine TW.loopT [1,3,4] (fun m h bs=>∃ (n:Int) (i:Int),zd6 k p m n i=some s_∧(h 1=.ptr 0 0 20∧h 3=.int .i64 n∧h 4=.int .i64 i)∧bs=[.cells true 20 (p.mask.l.map (T.int .i64)++(p.bits.l.map (T.int .i64)))]) ?_ k _ _ ?_;rotate_left
  ·exact ⟨0,0,H1,kq hh,rfl⟩
  clear hh h H1;rintro m h bs ⟨n,i,H1,hh,rfl⟩;rcases m with _|m
  ·rw [zd6] at H1;cases H1
  rw [zd6] at H1;repeat apply TW.seq
  refine rk [1,3,4,6] [] hh ?_;clear hh h;intro h hh;rcases isp H1 with ⟨c1,H1⟩|⟨c1,H1⟩;rotate_left
  ·skip;repeat apply TW.seq
   refine cf (f2 hh (decide_eq_false c1)) ?_;refine xk ?_;cases H1;exact ce hh ⟨kq hh,rfl⟩
  repeat apply TW.seq
  refine ct (f2 hh (decide_eq_true c1)) ?_;repeat apply TW.seq
  refine sk ?_;repeat apply TW.seq
  apply TW.block;obtain ⟨rBit,e2,H1⟩:=zad H1;repeat apply TW.seq
  refine rkc [1,3,4] [] [(.int .i64 rBit,stL [.cells true 20 (p.mask.l.map (T.int .i64)++(p.bits.l.map (T.int .i64)))])] hh ?_ ?_
  ·exact ⟨zak.call ((zbu ax hx k p.mask i rBit e2 ).call _),trivial⟩
  clear hh h;intro h hh;repeat apply TW.seq
  refine rk [1,3,4] [] hh ?_;clear hh h;intro h hh;exact rd m hh ⟨(IntKind.i64.wrap ((IntKind.i64.wrap (n+1)) - rBit)),(IntKind.i64.wrap (i+1)),H1,kq hh,rfl⟩
 clear hh h;rintro h bs ⟨hh,rfl⟩;repeat apply TW.seq
 refine rk [2] [] hh ?_;clear hh h;intro h hh;cases H;exact rt hh
def zei (k:Nat) (l:List Pat):Nat→Int→(Ar 10)→Option (Ar 10)
 |0,_,_=>none
 |m+1,i,x=>(if i<(l.length:Int) then (if (0:Int)≤i∧i<(l.length:Int) then ((zjw k (⟨(gx l i).mask,(gx l i).mask⟩:Pat) x).bind fun rApply=>zei k l m (IntKind.i64.wrap (i+1)) rApply) else none) else some x)
def zjv (k:Nat) (l:List Pat):Option Int:=((zei k l k 0 (zA 10):Option (Ar 10)).bind fun s_=>((zlf k (⟨s_,(zA 10)⟩:Pat)).bind fun rFree=>some (IntKind.i64.wrap (160 - rFree))))
set_option maxHeartbeats 8000000 in
theorem zxe (ax:Axs) (hx:zbe ax) (k:Nat) (l:List Pat) (v:Int) (H:zjv k l=some v):Pure Tryz.prog (EE ax) [] 139 [lPat l] (.int .i64 v):=by
 rw [zjv] at H;refine en [.tmp 2] 30 [0] (hx.no _ (by decide)) (fn139 ax) ?_;intro h hh;repeat apply TW.seq
 refine rk [0] [] hh ?_;clear hh h;intro h hh;repeat apply TW.seq
 refine rk [0,3] [] hh ?_;clear hh h;intro h hh;repeat apply TW.seq
 refine rk [0,3,4] [] hh ?_;clear hh h;intro h hh;obtain ⟨s_,H1,H⟩:=zad H;repeat apply TW.seq
 refine cu [3] 1 (fun h bs=>(h 3=.ptr 0 0 20)∧bs=[.cells true 20 (s_.l.map (T.int .i64)++((zA 10).l.map (T.int .i64)))]) ?_ ?_
 ·skip;repeat apply TW.seq
  apply TW.block;repeat apply TW.seq
  refine TW.loopT [0,3,4] (fun m h bs=>∃ (i:Int) (x:Ar 10),zei k l m i x=some s_∧(h 0=lPat l∧h 3=.ptr 0 0 20∧h 4=.int .i64 i)∧bs=[.cells true 20 (x.l.map (T.int .i64)++((zA 10).l.map (T.int .i64)))]) ?_ k _ _ ?_;rotate_left
  ·exact ⟨0,(zA 10),H1,kq hh,rfl⟩
  clear hh h H1;rintro m h bs ⟨i,x,H1,hh,rfl⟩;rcases m with _|m
  ·rw [zei] at H1;cases H1
  rw [zei] at H1;repeat apply TW.seq
  refine rk [0,3,4,9] [] (f2 hh (zjb ax)) ?_;clear hh h;intro h hh;rcases isp H1 with ⟨c1,H1⟩|⟨c1,H1⟩;rotate_left
  ·skip;repeat apply TW.seq
   refine cf (f2 hh (decide_eq_false c1)) ?_;refine xk ?_;cases H1;exact ce hh ⟨kq hh,rfl⟩
  repeat apply TW.seq
  refine ct (f2 hh (decide_eq_true c1)) ?_;repeat apply TW.seq
  refine sk ?_;repeat apply TW.seq
  apply TW.block;obtain ⟨g2,H1⟩:=isg H1;obtain ⟨rApply,e3,H1⟩:=zad H1;repeat apply TW.seq
  refine dk 13 [0,3,4] [] [] [(.agg (rApply.l.map (T.int .i64)),stL [.cells true 20 (x.l.map (T.int .i64)++((zA 10).l.map (T.int .i64)))])] (f3 hh (zai g2) (f3 (bt92 ax) (yme ax) (f3 (yls ax) (ylr ax) (zjb ax)))) trivial ?_ ?_
  ·exact ⟨zak.call ((zxf ax hx k (⟨(gx l i).mask,(gx l i).mask⟩:Pat) x rApply e3 ).call _),trivial⟩
  clear hh h;intro h hh;repeat apply TW.seq
  refine rk [0,3,4] [] hh ?_;clear hh h;intro h hh;exact rd m hh ⟨(IntKind.i64.wrap (i+1)),rApply,H1,kq hh,rfl⟩
 clear hh h;rintro h bs ⟨hh,rfl⟩;obtain ⟨rFree,e4,H⟩:=zad H;repeat apply TW.seq
 refine rkc [2] [] [(.int .i64 rFree,stL [.cells true 20 (s_.l.map (T.int .i64)++((zA 10).l.map (T.int .i64)))])] hh ?_ ?_
 ·exact ⟨zak.call ((zy8 ax hx k (⟨s_,(zA 10)⟩:Pat) rFree e4 ).call _),trivial⟩
 clear hh h;intro h hh;cases H;exact rt hh
def znu (k:Nat) (l:List Pat) (most:Int):Option Bool:=((zgg k l).bind fun rRightAll=>(if rRightAll=true then (if (l.length:Int)≤most then ((zjv k l).bind fun rFixed=>some (decide (rFixed≤12))) else some false) else some false))
set_option maxHeartbeats 8000000 in
theorem z2j (ax:Axs) (hx:zbe ax) (k:Nat) (l:List Pat) (most:Int) (v:Bool) (H:znu k l most=some v):Pure Tryz.prog (EE ax) [] 116 [lPat l,.int .i64 most] (.bool v):=by
 rw [znu] at H;refine en [.tmp 4] 20 [0,1] (hx.no _ (by decide)) (fn116 ax) ?_;intro h hh;repeat apply TW.seq
 refine rk [0,1] [] hh ?_;clear hh h;intro h hh;obtain ⟨rRightAll,e1,H⟩:=zad H;repeat apply TW.seq
 refine rkc [0,1,5] [] [(.bool rRightAll,stL [])] hh ?_ ?_
 ·exact ⟨zak.call ((zqr ax hx k l rRightAll e1 ).call _),trivial⟩
 clear hh h;intro h hh;rcases isb H with ⟨c2,H⟩|⟨c2,H⟩;rotate_left
 ·skip;repeat apply TW.seq
  refine rk [4] [] (f2 hh c2) ?_;clear hh h;intro h hh;cases H;exact rt hh
 rcases isp H with ⟨c3,H⟩|⟨c3,H⟩;rotate_left
 ·skip;repeat apply TW.seq
  refine rk [4] [] (f3 hh c2 (f2 (decide_eq_false c3) (zjb ax))) ?_;clear hh h;intro h hh;cases H;exact rt hh
 obtain ⟨rFixed,e4,H⟩:=zad H;repeat apply TW.seq
 refine rkc [4] [] [(.int .i64 rFixed,stL [])] (f3 hh c2 (f2 (decide_eq_true c3) (zjb ax))) ?_ ?_
 ·exact ⟨zak.call (Pure.clr (zxe ax hx k l rFixed e4 ) (by first|rfl|simp only [c2])),trivial⟩
 clear hh h;intro h hh;cases H;exact rt hh
def zjr (k:Nat) (t:List Rule):Option Bool:=((zg4 k t (t.length:Int)).bind fun rbefore=>((znu k rbefore 12).bind fun rFew=>some rFew))
set_option maxHeartbeats 8000000 in
theorem zxa (ax:Axs) (hx:zbe ax) (k:Nat) (t:List Rule) (v:Bool) (H:zjr k t=some v):Pure Tryz.prog (EE ax) [] 66 [zbp t] (.bool v):=by
 rw [zjr] at H;refine en [.tmp 2] 8 [0] (hx.no _ (by decide)) (fn66 ax) ?_;intro h hh;repeat apply TW.seq
 refine rk [0] [] hh ?_;clear hh h;intro h hh;obtain ⟨rbefore,e1,H⟩:=zad H;obtain ⟨rFew,e2,H⟩:=zad H;repeat apply TW.seq
 refine rkc [2] [] [(lPat rbefore,stL []),(.bool rFew,stL [])] hh ?_ ?_
 ·exact ⟨zak.call ((zms ax hx k t (t.length:Int) rbefore e1 ).call _),zak.call ((z2j ax hx k rbefore 12 rFew e2 ).call _),trivial⟩
 clear hh h;intro h hh;cases H;exact rt hh
end
section
open Go Go.RowKit
theorem z5n {P:Nat→Prop}:∀ n,(∃ i,i<n∧P i)→∃ i,i<n∧P i∧∀ j,j<i→¬ P j
  |0,⟨i,hi,_⟩=>by omega
  |n+1,⟨i,hi,hp⟩=>by
    by_cases h:∃ i,i<n∧P i
    · obtain ⟨j,h1,h2,h3⟩:=z5n n h;exact ⟨j,by omega,h2,h3⟩
    · exact ⟨i,hi,hp,fun j hj hpj=>h ⟨j,by omega,hpj⟩⟩
theorem z7e {a b:Nat} (ha:a<65536) (hb:b<65536) (h:a≠b):∃ t,t<16∧(∀ s,t<s→a.testBit s=b.testBit s)∧a.testBit t≠b.testBit t:=by
  have hex:∃ u,u<16∧a.testBit (15 - u)≠b.testBit (15 - u):=by
    refine Classical.byContradiction fun hn=>h (zqz ha hb fun t ht=>?_);refine Classical.byContradiction fun hd=>hn ⟨15 - t,by omega,?_⟩;rw [show 15 - (15 - t)=t by omega];exact hd
  obtain ⟨u,h1,h2,h3⟩:=z5n 16 hex;refine ⟨15 - u,by omega,fun s hs=>?_,h2⟩;by_cases hs16:s<16
  · have:=h3 (15 - s) (by omega);rw [show 15 - (15 - s)=s by omega] at this;exact Classical.byContradiction this
  · have e:65536≤2 ^ s:=Nat.pow_le_pow_right (n:=2) (by decide) (show 16≤s by omega);rw [Nat.testBit_lt_two_pow (Nat.lt_of_lt_of_le ha e),Nat.testBit_lt_two_pow (Nat.lt_of_lt_of_le hb e)]
theorem z7z {a b t:Nat} (ha:a.testBit t=false) (hb:b.testBit t=true) (hs:∀ s,t<s→a.testBit s=b.testBit s):a<b:=by
  have e:a / 2 ^ (t+1)=b / 2 ^ (t+1):=by
    apply Nat.eq_of_testBit_eq;intro i;rw [Nat.testBit_div_two_pow,Nat.testBit_div_two_pow];exact hs _ (by omega)
  rw [Nat.pow_succ,← Nat.div_div_eq_div_mul,← Nat.div_div_eq_div_mul] at e;rw [Nat.testBit_eq_decide_div_mod_eq] at ha hb;have ha':=of_decide_eq_false ha;have hb':=of_decide_eq_true hb;apply Nat.lt_of_not_le;intro h;have:=Nat.div_le_div_right (c:=2 ^ t) h;omega
theorem zoa {a b:Ar 10} (ha:zac a=true) (hb:zac b=true) {j:Nat} (hj:j<10) (he:∀ i,i<j→hw a i=hw b i) (hl:hw a j<hw b j):ltH a b:=by
  obtain ⟨t,h1,h2,h3⟩:=z7e (zb3 ha hj).2 (zb3 hb hj).2 (by omega)
  have hat:(hw a j).testBit t=false∧(hw b j).testBit t=true:=by
    cases e1:(hw a j).testBit t with
    |false =>
      cases e2:(hw b j).testBit t with
      |false=>rw [e1,e2] at h3;exact absurd rfl h3
      |true=>exact ⟨rfl,rfl⟩
    |true =>
      cases e2:(hw b j).testBit t with
      |true=>rw [e1,e2] at h3;exact absurd rfl h3
      |false =>
        have:=z7z e2 e1 fun s hs=>(h2 s hs).symm;omega
  refine ⟨16*j+(15 - t),by omega,fun s hs=>?_,?_,?_⟩
  · unfold hbit;by_cases c:s / 16=j
    · rw [c];exact h2 _ (by omega)
    · rw [he (s / 16) (by omega)]
  · rw [zhb a hj h1];exact hat.1
  · rw [zhb b hj h1];exact hat.2
theorem zmb {a:Ar 10}:¬ ltH a a:=by
  rintro ⟨i,_,_,h1,h2⟩;rw [h1] at h2;cases h2
theorem z0h {a b:Ar 10} (h:ltH a b):¬ ltH b a:=by
  obtain ⟨i,h1,h2,h3,h4⟩:=h;rintro ⟨j,k1,k2,k3,k4⟩;rcases Nat.lt_trichotomy i j with c|c|c
  · have:=k2 i c;rw [h3,h4] at this;cases this
  · subst c;rw [h3] at k4;cases k4
  · have:=h2 j c;rw [k3,k4] at this;cases this
theorem z0g {a b c:Ar 10} (h:ltH a b) (k:ltH b c):ltH a c:=by
  obtain ⟨i,h1,h2,h3,h4⟩:=h;obtain ⟨j,k1,k2,k3,k4⟩:=k;rcases Nat.lt_trichotomy i j with e|e|e
  · exact ⟨i,h1,fun s hs=>by rw [h2 s hs,k2 s (by omega)],h3,by rw [← k2 i e];exact h4⟩
  · subst e;rw [h4] at k3;cases k3
  · exact ⟨j,k1,fun s hs=>by rw [h2 s (by omega),k2 s hs],by rw [h2 j e];exact k3,k4⟩
def Cmp (a b:Ar 10) (c:Int):Prop:=(c=-1∧ltH a b)∨(c=1∧ltH b a)∨(c=0∧a=b)
theorem Cmp.neg {a b:Ar 10} {c:Int} (h:Cmp a b c):c<0↔ltH a b:=by
  rcases h with ⟨rfl,h⟩|⟨rfl,h⟩|⟨rfl,rfl⟩
  · exact ⟨fun _=>h,fun _=>by decide⟩
  · exact ⟨fun q=>absurd q (by decide),fun q=>absurd q (z0h h)⟩
  · exact ⟨fun q=>absurd q (by decide),fun q=>absurd q zmb⟩
theorem Cmp.pos {a b:Ar 10} {c:Int} (h:Cmp a b c):0<c↔ltH b a:=by
  rcases h with ⟨rfl,h⟩|⟨rfl,h⟩|⟨rfl,rfl⟩
  · exact ⟨fun q=>absurd q (by decide),fun q=>absurd q (z0h h)⟩
  · exact ⟨fun _=>h,fun _=>by decide⟩
  · exact ⟨fun q=>absurd q (by decide),fun q=>absurd q zmb⟩
theorem zqt {k:Nat} {a b:Ar 10} (ha:zac a=true) (hb:zac b=true) (hk:10<k):∃ c,zdx k a b=some c∧Cmp a b c:=by
  have key:∀ m j,j≤10→10 - j<m→(∀ i,i<j→hw a i=hw b i)→∃ o,zba k a b m (j:Int)=some o∧((∃ c,o=.inl c∧Cmp a b c)∨(o=.inr ()∧a=b)):=by
    intro m
    induction m with
    |zero=>intro j h1 h2;omega
    |succ m ih =>
      intro j h1 h2 h3;rw [zba];by_cases c:j<10
      · obtain ⟨a1,a2⟩:=zb3 ha c;obtain ⟨b1,b2⟩:=zb3 hb c;rw [if_pos (lt10 c),if_pos ⟨by omega,lt10 c⟩,a1,b1,zbq j (by omega)];by_cases c1:hw a j<hw b j
        · rw [if_pos (zah c1)];exact ⟨_,rfl,.inl ⟨_,rfl,.inl ⟨rfl,zoa ha hb c h3 c1⟩⟩⟩
        · rw [if_neg (by omega)];by_cases c2:hw b j<hw a j
          · rw [if_pos (zah c2)];exact ⟨_,rfl,.inl ⟨_,rfl,.inr (.inl ⟨rfl,zoa hb ha c (fun i hi=>(h3 i hi).symm) c2⟩)⟩⟩
          · rw [if_neg (by omega)]
            exact ih (j+1) (by omega) (by omega) fun i hi=>by
              by_cases e:i<j
              · exact h3 i e
              · obtain rfl:i=j:=by omega
                omega
      · obtain rfl:j=10:=by omega
        rw [if_neg (by decide)];refine ⟨_,rfl,.inr ⟨rfl,zrf ha hb fun i hi=>?_⟩⟩;unfold hbit;rw [h3 (i / 16) (by omega)]
  obtain ⟨o,e,h⟩:=key k 0 (by omega) (by omega) (fun i hi=>by omega);unfold zdx;rw [show ((0:Nat):Int)=0 from rfl] at e;rw [e,Option.bind_some];rcases h with ⟨c,rfl,h⟩|⟨rfl,h⟩
  · exact ⟨c,rfl,h⟩
  · exact ⟨0,rfl,.inr (.inr ⟨rfl,h⟩)⟩
end
section
open Go Go.RowKit
structure Meet (p q r:Pat):Prop where
  mask:zac r.mask=true
  bits:zac r.bits=true
  hm:∀ j,j<160→hbit r.mask j=(hbit p.mask j || hbit q.mask j)
  hb:∀ j,j<160→hbit r.bits j=if hbit q.mask j=true then hbit q.bits j else hbit p.bits j
theorem zox {a:Bool}:((a.toNat:Int)=0)↔a=false:=by cases a<;>decide
structure AndI (p q:Pat) (i:Nat) (x y:Ar 10):Prop where
  rx:zac x=true
  ry:zac y=true
  hx:∀ j,j<160→hbit x j=(hbit p.mask j || (decide (j<i) && hbit q.mask j))
  hy:∀ j,j<160→hbit y j=if (decide (j<i) && hbit q.mask j)=true then hbit q.bits j else hbit p.bits j
  ok:∀ j,j<i→hbit p.mask j=true→hbit q.mask j=true→hbit p.bits j=hbit q.bits j
theorem yju {k:Nat} {p q:Pat} (hp:zag p=true) (hq:zag q=true) (hk:160<k):∃ r,znv k p q=some r∧((zep p q=false∧r.2=false)∨(zep p q=true∧r.2=true∧Meet p q r.1)):=by
  obtain ⟨pm,pb,pw⟩:=zaj.1 hp;obtain ⟨qm,qb,qw⟩:=zaj.1 hq
  have key:∀ m i x y,i≤160→160 - i<m→AndI p q i x y→∃ o,ze5 k q m (i:Int) x y=some o∧((∃ r,o=.inl r∧r.2=false∧zep p q=false)∨∃ x y,o=.inr (x,y)∧AndI p q 160 x y):=by
    intro m
    induction m with
    |zero=>intro i x y h1 h2;omega
    |succ m ih =>
      intro i x y h1 h2 hI;rw [ze5];by_cases c:i<160
      · rw [if_pos (ye0 c),zgx qm c (by omega),Option.bind_some,zbq i (by omega)];by_cases c1:hbit q.mask i=false
        · rw [if_pos (zox.2 c1)]
          have hd:∀ j,(decide (j<i+1) && hbit q.mask j)=(decide (j<i) && hbit q.mask j):=fun j=>by
            by_cases e:j=i
            · subst e;rw [c1];simp
            · rw [show decide (j<i+1)=decide (j<i) from decide_eq_decide.2 (by omega)]
          refine ih (i+1) x y (by omega) (by omega) ⟨hI.rx,hI.ry,fun j hj=>by rw [hd,hI.hx j hj],fun j hj=>by rw [hd,hI.hy j hj],fun j hj h3 h4=>?_⟩;by_cases e:j=i
          · rw [e,c1] at h4;cases h4
          · exact hI.ok j (by omega) h3 h4
        · have c1':hbit q.mask i=true:=by simpa using c1
          have xi:hbit x i=hbit p.mask i:=by rw [hI.hx i c];simp
          have yi:hbit y i=hbit p.bits i:=by rw [hI.hy i c,if_neg (by simp)]
          rw [if_neg (fun h=>c1 (zox.1 h)),zgx hI.rx c (by omega),Option.bind_some,zgx hI.ry c (by omega),Option.bind_some,zgx qb c (by omega),Option.bind_some,xi,yi];by_cases c2:hbit p.mask i=true∧hbit p.bits i≠hbit q.bits i
          · rw [if_pos (zkx.2 c2.1),Option.bind_some,if_pos (decide_eq_true (z65.2 c2.2))];refine ⟨_,rfl,.inl ⟨_,rfl,rfl,?_⟩⟩
            cases ho:zep p q with
            |false=>rfl
            |true=>exact absurd (zj0.1 ho i c c2.1 c1') c2.2
          · have e2:(if ((hbit p.mask i).toNat:Int)=1 then some (decide (((hbit p.bits i).toNat:Int)≠((hbit q.bits i).toNat:Int))) else some false)=some false:=by
              by_cases c3:hbit p.mask i=true
              · have:hbit p.bits i=hbit q.bits i:=Classical.byContradiction fun h=>c2 ⟨c3,h⟩;rw [if_pos (zkx.2 c3),decide_eq_false (fun h=>(z65.1 h) this)]
              · rw [if_neg (fun h=>c3 (zkx.1 h))]
            rw [e2,Option.bind_some,if_neg (by simp)];obtain ⟨x2,s1,s2,s3⟩:=zl7 (k:=k) (b:=true) hI.rx c (by omega);obtain ⟨y2,t1,t2,t3⟩:=zl7 (k:=k) (b:=hbit q.bits i) hI.ry c (by omega);have s1':zf2 k x (i:Int) 1=some x2:=s1;rw [s1',Option.bind_some,Option.bind_some,t1,Option.bind_some];refine ih (i+1) x2 y2 (by omega) (by omega) ⟨s2,t2,fun j hj=>?_,fun j hj=>?_,fun j hj h3 h4=>?_⟩
            · rw [s3 j hj];by_cases e:j=i
              · subst e;rw [if_pos rfl,c1'];simp
              · rw [if_neg e,hI.hx j hj,show decide (j<i+1)=decide (j<i) from decide_eq_decide.2 (by omega)]
            · rw [t3 j hj];by_cases e:j=i
              · subst e;rw [if_pos rfl,c1',if_pos (by simp)]
              · rw [if_neg e,hI.hy j hj,show decide (j<i+1)=decide (j<i) from decide_eq_decide.2 (by omega)]
            · by_cases e:j=i
              · subst e;exact Classical.byContradiction fun h=>c2 ⟨h3,h⟩
              · exact hI.ok j (by omega) h3 h4
      · obtain rfl:i=160:=by omega
        rw [if_neg (by decide)];exact ⟨_,rfl,.inr ⟨x,y,rfl,hI⟩⟩
  obtain ⟨o,e,h⟩:=key k 0 p.mask p.bits (by omega) (by omega) ⟨pm,pb,fun j hj=>by simp,fun j hj=>by simp,fun j hj=>by omega⟩;unfold znv;rw [show ((0:Nat):Int)=0 from rfl] at e;rw [e,Option.bind_some];rcases h with ⟨r,rfl,h1,h2⟩|⟨x,y,rfl,hI⟩
  · exact ⟨r,rfl,.inl ⟨h2,h1⟩⟩
  · refine ⟨_,rfl,.inr ⟨zj0.2 fun i hi=>hI.ok i hi,rfl,hI.rx,hI.ry,fun j hj=>?_,fun j hj=>?_⟩⟩
    · rw [hI.hx j hj];simp [hj]
    · rw [hI.hy j hj];simp [hj]
theorem z2u {k:Nat} {p q:Pat} (hp:zag p=true) (hq:zag q=true) (hk:160<k):zhl k p q=some (zep p q):=by
  obtain ⟨r,e,h⟩:=yju hp hq hk;unfold zhl;rw [e,Option.bind_some];rcases h with ⟨h1,h2⟩|⟨h1,h2,_⟩<;>rw [h1,h2]
end
section
open Go Go.RowKit
def z8r (q:Pat) (i:Nat) (h:Ar 10):Prop:=∀ j,j<i→hbit q.mask j=true→hbit h j=hbit q.bits j
def Part (p q:Pat) (i:Nat) (r:Pat):Prop:=∀ h,zam r h=true↔zam p h=true∧z8r q i h∧hbit h i≠hbit q.bits i
theorem z24 {p q:Pat} {i:Nat} {x y h:Ar 10} (hI:AndI p q i x y) (hi:i≤160):(∀ j,j<160→hbit x j=true→hbit y j=hbit h j)↔zam p h=true∧z8r q i h:=by
  rw [zaz];constructor
  · intro hm
    have ag:z8r q i h:=fun j hj h1=>by
      have:=hm j (by omega) (by rw [hI.hx j (by omega),h1];simp [hj]);rw [hI.hy j (by omega),if_pos (by simp [hj,h1])] at this;exact this.symm
    refine ⟨fun j hj h1=>?_,ag⟩;by_cases c:j<i∧hbit q.mask j=true
    · rw [hI.ok j c.1 h1 c.2];exact (ag j c.1 c.2).symm
    · have:=hm j hj (by rw [hI.hx j hj,h1];rfl);rw [hI.hy j hj,if_neg (by simp only [Bool.and_eq_true,decide_eq_true_eq];exact c)] at this;exact this
  · rintro ⟨hm,ag⟩ j hj h1;rw [hI.hy j hj];by_cases c:j<i∧hbit q.mask j=true
    · rw [if_pos (by simp [c.1,c.2])];exact (ag j c.1 c.2).symm
    · rw [if_neg (by simp only [Bool.and_eq_true,decide_eq_true_eq];exact c)];rw [hI.hx j hj] at h1;refine hm j hj ?_;rcases Bool.or_eq_true _ _ |>.mp h1 with h2|h2
      · exact h2
      · simp only [Bool.and_eq_true,decide_eq_true_eq] at h2;exact absurd h2 c
structure yf1 (p q:Pat) (i:Nat) (l:List Pat):Prop where
  len:l.length≤i
  right:∀ r,r∈l→zag r=true
  mask:∀ r,r∈l→∀ j,j<160→hbit r.mask j=true→hbit p.mask j=true∨hbit q.mask j=true
  part:∀ r,r∈l→∃ j,j<i∧hbit q.mask j=true∧Part p q j r
  all:∀ h,zam p h=true→¬ z8r q i h→∃ r,r∈l∧zam r h=true
  apart:l.Pairwise fun r s=>∀ h,¬ (zam r h=true∧zam s h=true)
theorem yf5 {k:Nat} {p q:Pat} (hp:zag p=true) (hq:zag q=true) (hk:160<k):∀ m i x y l,i≤160→160 - i<m→AndI p q i x y→(∀ j,i≤j→j<160→hbit p.mask j=true→hbit q.mask j=true→hbit p.bits j=hbit q.bits j)→yf1 p q i l →
    ∃ x' y' l',zde k q m (i:Int) x y l l.length=some (x',y',l',l'.length)∧yf1 p q 160 l':=by
  obtain ⟨pm,pb,pw⟩:=zaj.1 hp;obtain ⟨qm,qb,qw⟩:=zaj.1 hq;intro m
  induction m with
  |zero=>intro i x y l h1 h2;omega
  |succ m ih =>
    intro i x y l h1 h2 hI hov hP;rw [zde];by_cases c:i<160
    · rw [if_pos (ye0 c),zgx qm c (by omega),Option.bind_some,zbq i (by omega)];have xi:hbit x i=hbit p.mask i:=by rw [hI.hx i c];simp
      have yi:hbit y i=hbit p.bits i:=by rw [hI.hy i c,if_neg (by simp)]
      -- one bit further without a new part
      have stay:(hbit q.mask i=true→hbit p.mask i=true)→∀ x2 y2,(∀ j,j<160→hbit x2 j=hbit x j)→(∀ j,j<160→hbit y2 j=hbit y j)→zac x2=true→zac y2=true→AndI p q (i+1) x2 y2∧yf1 p q (i+1) l:=fun hqp x2 y2 hx2 hy2 r1 r2=>by
        refine ⟨⟨r1,r2,fun j hj=>?_,fun j hj=>?_,fun j hj h3 h4=>?_⟩,⟨Nat.le_succ_of_le hP.len,hP.right,hP.mask,fun r hr=>?_,fun h hm hn=>?_,hP.apart⟩⟩
        · rw [hx2 j hj,hI.hx j hj];by_cases e:j=i
          · subst e
            cases hqi:hbit q.mask j with
            |false=>simp
            |true=>rw [hqp hqi];rfl
          · rw [show decide (j<i+1)=decide (j<i) from decide_eq_decide.2 (by omega)]
        · rw [hy2 j hj,hI.hy j hj];by_cases e:j=i
          · subst e;rw [if_neg (by simp)]
            cases hqi:hbit q.mask j with
            |false=>rw [if_neg (by simp)]
            |true=>rw [if_pos (by simp)];exact hov j (Nat.le_refl _) hj (hqp hqi) hqi
          · rw [show decide (j<i+1)=decide (j<i) from decide_eq_decide.2 (by omega)]
        · by_cases e:j=i
          · subst e;exact hov j (Nat.le_refl _) c h3 h4
          · exact hI.ok j (by omega) h3 h4
        · obtain ⟨j,q1,q2,q3⟩:=hP.part r hr;exact ⟨j,by omega,q2,q3⟩
        · refine hP.all h hm fun ag=>hn fun j hj hmj=>?_;by_cases e:j=i
          · subst e;rw [← zaz.1 hm j c (hqp hmj)];exact hov j (Nat.le_refl _) c (hqp hmj) hmj
          · exact ag j (by omega) hmj
      by_cases c1:hbit q.mask i=false
      · rw [if_pos (zox.2 c1),Option.bind_some,if_pos rfl];obtain ⟨a,b⟩:=stay (fun h=>by rw [c1] at h;cases h) x y (fun _ _=>rfl) (fun _ _=>rfl) hI.rx hI.ry;exact ih (i+1) x y l (by omega) (by omega) a (fun j hj=>hov j (by omega)) b
      · have c1':hbit q.mask i=true:=by simpa using c1
        rw [if_neg (fun h=>c1 (zox.1 h)),zgx hI.rx c (by omega),Option.bind_some,Option.bind_some,xi];by_cases c2:hbit p.mask i=true
        · rw [if_pos (decide_eq_true (zkx.2 c2))];obtain ⟨a,b⟩:=stay (fun _=>c2) x y (fun _ _=>rfl) (fun _ _=>rfl) hI.rx hI.ry;exact ih (i+1) x y l (by omega) (by omega) a (fun j hj=>hov j (by omega)) b
        · have c2':hbit p.mask i=false:=by simpa using c2
          rw [if_neg (by rw [decide_eq_true_eq];exact fun h=>c2 (zkx.1 h)),zgx qb c (by omega),Option.bind_some];obtain ⟨x2,s1,s2,s3⟩:=zl7 (k:=k) (b:=true) hI.rx c (by omega);obtain ⟨y2,t1,t2,t3⟩:=zl7 (k:=k) (b:=!hbit q.bits i) hI.ry c (by omega);obtain ⟨y3,u1,u2,u3⟩:=zl7 (k:=k) (b:=hbit q.bits i) t2 c (by omega);have s1':zf2 k x (i:Int) 1=some x2:=s1;have ew:IntKind.i64.wrap (1 - ((hbit q.bits i).toNat:Int))=((!hbit q.bits i).toNat:Int):=by cases hbit q.bits i<;>decide
          have hl160:=hP.len;rw [s1',Option.bind_some,ew,t1,Option.bind_some,if_pos (by omega),u1,Option.bind_some]
          have hrp:zag ⟨x2,y2⟩=true:=zaj.2 ⟨s2,t2,fun j hj h1=>by
            show hbit x2 j=true;have h1':hbit y2 j=true:=h1;rw [s3 j hj];rw [t3 j hj] at h1';by_cases e:j=i
            · rw [if_pos e]
            · rw [if_neg e] at h1' ⊢;rw [hI.hy j hj] at h1';rw [hI.hx j hj];by_cases cq:(decide (j<i) && hbit q.mask j)=true
              · rw [cq];simp
              · rw [if_neg cq] at h1'
                rw [pw j hj h1'];rfl⟩
          have hpart:Part p q i ⟨x2,y2⟩:=fun h=>by
            rw [zaz,← and_assoc,← z24 hI (by omega)];constructor
            · intro hm;refine ⟨fun j hj h1=>?_,?_⟩
              · have hne:j≠i:=by intro e;rw [e,xi,c2'] at h1;cases h1
                have:=hm j hj (show hbit x2 j=true by rw [s3 j hj,if_neg hne];exact h1);change hbit y2 j=_ at this;rw [t3 j hj,if_neg hne] at this;exact this
              · have:=hm i c (show hbit x2 i=true by rw [s3 i c,if_pos rfl]);change hbit y2 i=_ at this;rw [t3 i c,if_pos rfl] at this;rw [← this];cases hbit q.bits i<;>simp
            · rintro ⟨hm,hd⟩ j hj h1;change hbit x2 j=true at h1;show hbit y2 j=hbit h j;rw [t3 j hj];by_cases e:j=i
              · rw [if_pos e,e];revert hd;cases hbit q.bits i<;>cases hbit h i<;>simp
              · rw [if_neg e];rw [s3 j hj,if_neg e] at h1;exact hm j hj h1
          have hA : AndI p q (i + 1) x2 y3 := ⟨s2, u2, fun j hj => by
              rw [s3 j hj];by_cases e:j=i
              · subst e;rw [if_pos rfl,c1'];simp
              · rw [if_neg e,hI.hx j hj,show decide (j<i+1)=decide (j<i) from decide_eq_decide.2 (by omega)],fun j hj=>by
              rw [u3 j hj];by_cases e:j=i
              · subst e;rw [if_pos rfl,c1',if_pos (by simp)]
              · rw [if_neg e,t3 j hj,if_neg e,hI.hy j hj,show decide (j<i+1)=decide (j<i) from decide_eq_decide.2 (by omega)],fun j hj h3 h4=>by
              by_cases e:j=i
              · rw [e,c2'] at h3;cases h3
              · exact hI.ok j (by omega) h3 h4⟩
          have hPs:yf1 p q (i+1) (l++[⟨x2,y2⟩]):=by
            refine ⟨by rw [List.length_append,List.length_singleton];omega,fun r hr=>?_,fun r hr j hj h1=>?_,fun r hr=>?_,fun h hm hn=>?_,?_⟩
            · rcases List.mem_append.1 hr with h|h
              · exact hP.right r h
              · cases List.mem_singleton.1 h;exact hrp
            · rcases List.mem_append.1 hr with h|h
              · exact hP.mask r h j hj h1
              · cases List.mem_singleton.1 h;change hbit x2 j=true at h1;rw [s3 j hj] at h1;by_cases e:j=i
                · subst e;exact .inr c1'
                · rw [if_neg e,hI.hx j hj] at h1;rcases Bool.or_eq_true _ _ |>.mp h1 with h2|h2
                  · exact .inl h2
                  · simp only [Bool.and_eq_true] at h2;exact .inr h2.2
            · rcases List.mem_append.1 hr with h|h
              · obtain ⟨j,q1,q2,q3⟩:=hP.part r h;exact ⟨j,by omega,q2,q3⟩
              · cases List.mem_singleton.1 h;exact ⟨i,by omega,c1',hpart⟩
            · by_cases ag:z8r q i h
              · refine ⟨_,List.mem_append.2 (.inr (List.mem_singleton.2 rfl)),(hpart h).2 ⟨hm,ag,fun e=>hn fun j hj hmj=>?_⟩⟩;by_cases e2:j=i
                · rw [e2];exact e
                · exact ag j (by omega) hmj
              · obtain ⟨r,h3,h4⟩:=hP.all h hm ag;exact ⟨r,List.mem_append.2 (.inl h3),h4⟩
            · refine List.pairwise_append.2 ⟨hP.apart,List.pairwise_singleton _ _,fun r hr s hs h=>?_⟩;cases List.mem_singleton.1 hs;rintro ⟨h3,h4⟩;obtain ⟨j,q1,q2,q3⟩:=hP.part r hr;exact ((q3 h).1 h3).2.2 (((hpart h).1 h4).2.1 j q1 q2)
          have:=ih (i+1) x2 y3 _ (by omega) (by omega) hA (fun j hj=>hov j (by omega)) hPs;rw [List.length_append,List.length_singleton] at this;exact this
    · obtain rfl:i=160:=by omega
      rw [if_neg (by decide)];exact ⟨_,_,_,rfl,hP⟩
structure Diff (p q:Pat) (l:List Pat):Prop where
  len:l.length≤160
  right:∀ r,r∈l→zag r=true
  mask:∀ r,r∈l→∀ j,j<160→hbit r.mask j=true→hbit p.mask j=true∨hbit q.mask j=true
  heads:∀ h,(∃ r,r∈l∧zam r h=true)↔zam p h=true∧zam q h=false
  apart:l.Pairwise fun r s=>∀ h,¬ (zam r h=true∧zam s h=true)
theorem ydp {q:Pat} {h:Ar 10}:z8r q 160 h↔zam q h=true:=by
  rw [zaz];exact ⟨fun a i hi hm=>(a i hi hm).symm,fun a i hi hm=>(a i hi hm).symm⟩
theorem yao {k:Nat} {p q:Pat} (hp:zag p=true) (hq:zag q=true) (hk:160<k):∃ l,zju k p q=some l∧Diff p q l:=by
  unfold zju;rw [z2u hp hq hk,Option.bind_some]
  cases ho:zep p q with
  |false =>
    rw [if_neg (by simp)];refine ⟨_,rfl,by simp,fun r hr=>by cases List.mem_singleton.1 hr;exact hp,fun r hr j hj h1=>by cases List.mem_singleton.1 hr;exact .inl h1,fun h=>?_,List.pairwise_singleton _ _⟩;constructor
    · rintro ⟨r,hr,hm⟩;cases List.mem_singleton.1 hr;refine ⟨hm,?_⟩
      cases hqm:zam q h with
      |false=>rfl
      |true=>have:=z2z hm hqm;rw [ho] at this;cases this
    · rintro ⟨hm,_⟩;exact ⟨p,List.mem_singleton.2 rfl,hm⟩
  |true =>
    obtain ⟨pm,pb,pw⟩:=zaj.1 hp;rw [if_pos rfl];obtain ⟨x,y,l,e,hP⟩:=yf5 (k:=k) hp hq hk k 0 p.mask p.bits [] (by omega) (by omega) ⟨pm,pb,fun j hj=>by simp,fun j hj=>by simp,fun j hj=>by omega⟩ (fun j _ hj h1 h2=>zj0.1 ho j hj h1 h2) ⟨by simp,fun r hr=>by simp at hr,fun r hr=>by simp at hr,fun r hr=>by simp at hr,fun h hm hn=>absurd (fun j hj=>by omega) hn,List.Pairwise.nil⟩;rw [show ((0:Nat):Int)=0 from rfl] at e;rw [show (([]:List Pat).length)=0 from rfl] at e;rw [e,Option.bind_some,if_pos rfl];refine ⟨l,rfl,hP.len,hP.right,hP.mask,fun h=>?_,hP.apart⟩;constructor
    · rintro ⟨r,hr,hm⟩;obtain ⟨j,q1,q2,q3⟩:=hP.part r hr;obtain ⟨k1,k2,k3⟩:=(q3 h).1 hm;refine ⟨k1,?_⟩
      cases hqm:zam q h with
      |false=>rfl
      |true=>exact absurd (zaz.1 hqm j q1 q2).symm k3
    · rintro ⟨hm,hn⟩;exact hP.all h hm fun a=>by rw [ydp.1 a] at hn;cases hn
end
section
open Go Go.RowKit
theorem yeb {α:Type} (e:α) (f:Nat→α):rngF [] e f=e:=rfl
theorem yag {α:Type} (x:Nat) (r:List Nat) (e:α) (f:Nat→α):rngF (x :: r) e f=f x:=rfl
theorem z3f {α:Type} (g:α→Bool) {l:List α} {i:Nat} (h:i<l.length):(l.take (i+1)).filter g=(l.take i).filter g++(if g l[i]=true then [l[i]] else []):=by
  rw [List.take_add_one,List.getElem?_eq_getElem h,Option.toList_some,List.filter_append];cases hg:g l[i]<;>simp [hg]
def ym6 (p:Pat) (l:List Pat) (o:(Ar 10×Bool) ⊕ (Int×List Pat×Nat)):Prop :=
  (o=.inl (zA 10,false)∧∃ q,q∈l∧zep p q=true∧∀ i,i<160→zg0 q p i=false) ∨
  ∃ a:Nat,o=.inr ((a:Int),l.filter (zep p),(l.filter (zep p)).length)∧(∀ q,q∈l.filter (zep p)→∀ i,i<a→zg0 q p i=false)∧(l.filter (zep p)≠[]→a<160∧∃ q,q∈l.filter (zep p)∧zg0 q p a=true)
theorem z9z {k:Nat} {p:Pat} {l:List Pat} (hp:zag p=true) (hl:∀ q,q∈l→zag q=true) (hlen:l.length≤1000) (hk:big≤k):∃ o,zau k p l k 160 0 [] 0=some o∧ym6 p l o:=by
  have key : ∀ m i (a : Nat), i ≤ l.length → l.length - i < m → a ≤ 160 → (∀ q, q ∈ (l.take i).filter (zep p) → ∀ j, j < a → zg0 q p j = false) → ((l.take i).filter (zep p) = [] → a = 160) → ((l.take i).filter (zep p) ≠ [] → a < 160 ∧ ∃ q, q ∈ (l.take i).filter (zep p) ∧ zg0 q p a = true) →
      ∃ o,zau k p l m (a:Int) (i:Int) ((l.take i).filter (zep p)) ((l.take i).filter (zep p)).length=some o∧ym6 p l o:=by
    intro m
    induction m with
    |zero=>intro i a h1 h2;omega
    |succ m ih =>
      intro i a h1 h2 ha hI hE hN;rw [zau];by_cases c:i<l.length
      · have hq:=hl _ (List.getElem_mem c);have hn:((l.take i).filter (zep p)).length≤1000:=Nat.le_trans (List.length_filter_le _ _) (by rw [List.length_take];omega);have hf:=z3f (zep p) c;rw [if_pos (zah c),if_pos ⟨by omega,zah c⟩,zcx c,z1x hp hq (by simp only [big] at hk;omega),Option.bind_some,zbq i (by omega)]
        cases ho:zep p l[i] with
        |false =>
          rw [if_neg (by simp)];rw [ho,if_neg (by simp),List.append_nil] at hf;have:=ih (i+1) a (by omega) (by omega) ha;rw [hf] at this;exact this hI hE hN
        |true =>
          rw [ho,if_pos rfl] at hf;rw [if_pos rfl,if_pos (by omega),if_pos (ybe (zaj.1 hq).1),if_pos (ybe (zaj.1 hp).1)];rcases z7v (zaj.1 hq).1 (zaj.1 hp).1 with ⟨e1,e2⟩|⟨x,r,e1,e2,e3,e4⟩
          · rw [e1,yeb,if_pos (by decide)];exact ⟨_,rfl,.inl ⟨rfl,_,List.getElem_mem c,ho,e2⟩⟩
          · rw [e1,yag,if_neg (by omega),show min (a:Int) (x:Int)=((min a x:Nat):Int) by omega];have:=ih (i+1) (min a x) (by omega) (by omega) (by omega);rw [hf,List.length_append,List.length_singleton] at this;refine this (fun q hq j hj=>?_) (fun h=>by simp at h) (fun _=>⟨by omega,?_⟩)
            · rcases List.mem_append.1 hq with h|h
              · exact hI q h j (by omega)
              · cases List.mem_singleton.1 h;exact e4 j (by omega)
            · by_cases cx:x≤a
              · exact ⟨_,List.mem_append.2 (.inr (List.mem_singleton.2 rfl)),by rw [Nat.min_eq_right cx];exact e3⟩
              · rw [Nat.min_eq_left (by omega)];have hne:(l.take i).filter (zep p)≠[]:=fun h=>by have:=hE h;omega
                obtain ⟨_,q,h3,h4⟩:=hN hne;exact ⟨q,List.mem_append.2 (.inl h3),h4⟩
      · obtain rfl:i=l.length:=by omega
        rw [if_neg (by omega)];rw [List.take_length] at hI hN ⊢;exact ⟨_,rfl,.inr ⟨a,rfl,hI,hN⟩⟩
  exact key k 0 160 (Nat.zero_le _) (by simp only [big] at hk;omega) (Nat.le_refl _) (fun q hq=>by simp at hq) (fun _=>rfl) (fun h=>absurd rfl h)
theorem z9y {k:Nat} (hk:big≤k):∀ (m c:Nat) (p:Pat) (l:List Pat),c≤160→161 - c≤m→zag p=true→(∀ q,q∈l→zag q=true)→l.length≤1000→(∀ q,q∈l→∀ i,i<c→zg0 q p i=false)→∃ r,zbl k m p l=some r∧Res p l r:=by
  intro m
  induction m with
  |zero=>intro c p l h1 h2;omega
  |succ m ih =>
    intro c p l h1 h2 hp hl hlen hc;rw [zbl];obtain ⟨o,e,hF⟩:=z9z hp hl hlen hk;rw [e,Option.bind_some];rcases hF with ⟨rfl,q,hq,ho,hn⟩|⟨a,rfl,hI,hN⟩
    · refine ⟨_,rfl,.inr ⟨rfl,fun h hO=>?_⟩⟩
      have:zam q h=true:=zaz.2 fun i hi hm=>by
        have hop:=hn i hi;unfold zg0 at hop;rw [hm] at hop;have hpm:hbit p.mask i=true:=by simpa using hop
        rw [← zaz.1 hO.into i hi hpm];exact (zj0.1 ho i hi hpm hm).symm
      rw [hO.no q hq] at this;cases this
    · rw [Sum.elim_inr];have hnl:(l.filter (zep p)).length≤1000:=Nat.le_trans (List.length_filter_le _ _) hlen;have hnr:∀ q,q∈l.filter (zep p)→zag q=true:=fun q hq=>hl q (List.mem_filter.1 hq).1;by_cases hz:l.filter (zep p)=[]
      · rw [if_pos (show (((l.filter (zep p)).length:Nat):Int)=0 by rw [hz];rfl)];unfold zki;refine ⟨_,rfl,.inl ⟨rfl,zvo hp fun q hq=>?_⟩⟩
        cases ho:zep p q with
        |false=>rfl
        |true=>have:q∈l.filter (zep p):=List.mem_filter.2 ⟨hq,ho⟩;rw [hz] at this;cases this
      · obtain ⟨a160,q0,hq0,hop⟩:=hN hz;have hpa:hbit p.mask a=false:=by unfold zg0 at hop;simp at hop;exact hop.2
        have hca:c≤a:=by
          apply Nat.le_of_not_lt;intro hlt;have:=hc q0 (List.mem_filter.1 hq0).1 a hlt;rw [hop] at this;cases this
        have hlen0:¬ ((l.filter (zep p)).length:Int)=0:=by
          intro h;exact hz (List.eq_nil_of_length_eq_zero (by omega))
        rw [if_neg hlen0];obtain ⟨p0,f0,F0⟩:=z67 (k:=k) (b:=false) hp a160;obtain ⟨p1,f1,F1⟩:=z67 (k:=k) (b:=true) hp a160;have f0':zhn k p (a:Int) 0=some p0:=f0;have f1':zhn k p (a:Int) 1=some p1:=f1
        have next:∀ {b:Bool} {r:Pat},zwr p a b r→∀ q,q∈l.filter (zep p)→∀ i,i<a+1→zg0 q r i=false:=fun {b r} hF q hq i hi=>by
          unfold zg0;rw [hF.hm i (by omega)];by_cases e:i=a
          · simp [e]
          · have:=hI q hq i (by omega);unfold zg0 at this;rw [decide_eq_false e,Bool.false_or];exact this
        obtain ⟨r0,e0,R0⟩:=ih (a+1) p0 _ (by omega) (by omega) (z03 hp F0) hnr hnl (next F0);rw [f0',Option.bind_some,if_pos rfl,e0,Option.bind_some]
        cases hb:r0.2 with
        |true =>
          rw [if_pos rfl];refine ⟨_,rfl,?_⟩;have:=Res.join (r1:=r0) a160 hpa F0 F1 hI R0 (fun h=>by rw [hb] at h;cases h);rw [hb,if_pos rfl] at this;rcases this with ⟨x,y⟩|⟨x,y⟩
          · exact .inl ⟨x,⟨Out.near.2 y.out,fun h' ho'=>y.least h' (Out.near.1 ho')⟩⟩
          · exact .inr ⟨x,fun h ho'=>y h (Out.near.1 ho')⟩
        |false =>
          obtain ⟨r1,e1,R1⟩:=ih (a+1) p1 _ (by omega) (by omega) (z03 hp F1) hnr hnl (next F1);rw [if_neg (by simp),f1',Option.bind_some,e1,Option.bind_some];refine ⟨_,rfl,?_⟩;have:=Res.join a160 hpa F0 F1 hI R0 (fun _=>R1);rw [hb,if_neg (by simp)] at this;rcases this with ⟨x,y⟩|⟨x,y⟩
          · exact .inl ⟨x,⟨Out.near.2 y.out,fun h' ho'=>y.least h' (Out.near.1 ho')⟩⟩
          · exact .inr ⟨x,fun h ho'=>y h (Out.near.1 ho')⟩
theorem z1y {k:Nat} (hk:big≤k) {p:Pat} {l:List Pat} (hp:zag p=true) (hl:∀ q,q∈l→zag q=true) (hlen:l.length≤1000):∃ r,zgj k p l=some r∧Res p l r:=by
  obtain ⟨r,e,R⟩:=z9y hk k 0 p l (by omega) (by simp only [big] at hk;omega) hp hl hlen (fun q hq i hi=>by omega);refine ⟨r,?_,R⟩;unfold zgj zg9;rw [e];rfl
end
section
open Go Go.RowKit
theorem zpg {α:Type} (f:α→Bool):∀ l:List α,(l.filter f).length+(l.filter fun x=>!f x).length=l.length
  |[]=>rfl
  |x :: l=>by
    have:=zpg f l;cases h:f x<;>simp [h]<;>omega
theorem z1j {α:Type} (b:α→Nat→Bool):∀ (F:List Nat) (L:List α),L.Pairwise (fun r s=>∃ j,j∈F∧b r j≠b s j)→L.length≤2 ^ F.length
  |[],[],_=>by simp
  |[],[x],_=>by simp
  |[],x :: y :: l,h=>by
    obtain ⟨j,hj,_⟩:=(List.pairwise_cons.1 h).1 y (.head _)
    cases hj
  |f :: F,L,h=>by
    have key:∀ g:α→Bool,(∀ x y,g x=true→g y=true→b x f=b y f)→(L.filter g).length≤2 ^ F.length:=fun g hg=>by
      refine z1j b F _ ?_;rw [List.pairwise_filter];refine h.imp ?_;intro x y hxy gx gy;obtain ⟨j,hj,hd⟩:=hxy;rcases List.mem_cons.1 hj with e|e
      · subst e;exact absurd (hg x y gx gy) hd
      · exact ⟨j,e,hd⟩
    have h1:=key (fun x=>b x f) (fun x y hx hy=>by rw [hx,hy])
    have h2:=key (fun x=>!b x f) (fun x y hx hy=>by
      have hx':b x f=false:=by simpa using hx
      have hy':b y f=false:=by simpa using hy
      rw [hx',hy'])
    have:=zpg (fun x=>b x f) L;rw [List.length_cons,Nat.pow_succ];omega
structure zue (F:List Nat) (L:List Pat):Prop where
  right:∀ r,r∈L→zag r=true
  mask:∀ r,r∈L→∀ j,j<160→hbit r.mask j=true→j∈F
  apart:L.Pairwise fun r s=>∀ h,¬ (zam r h=true∧zam s h=true)
theorem zue.few {F:List Nat} {L:List Pat} (h:zue F L) (hF:F.length≤12):L.length≤4096:=by
  refine Nat.le_trans (z1j (fun r j=>hbit r.bits j) F L ?_) (Nat.pow_le_pow_right (n:=2) (by decide) hF);refine h.apart.imp_of_mem ?_;intro r s hr hs hd;refine Classical.byContradiction fun hn=>hd r.bits ⟨zaz.2 fun i _ _=>rfl,zaz.2 fun i hi hm=>?_⟩;refine Classical.byContradiction fun hne=>hn ⟨i,h.mask s hs i hi hm,fun e=>hne e.symm⟩
def zk8 (L:List Pat) (h:Ar 10):Prop:=∃ r,r∈L∧zam r h=true
theorem zqf {a b:List Pat} {h:Ar 10}:zk8 (a++b) h↔zk8 a h∨zk8 b h:=by
  unfold zk8;constructor
  · rintro ⟨r,hr,hm⟩;rcases List.mem_append.1 hr with q|q
    · exact .inl ⟨r,q,hm⟩
    · exact .inr ⟨r,q,hm⟩
  · rintro (⟨r,hr,hm⟩|⟨r,hr,hm⟩)
    · exact ⟨r,List.mem_append.2 (.inl hr),hm⟩
    · exact ⟨r,List.mem_append.2 (.inr hr),hm⟩
theorem zxp {k:Nat} {F:List Nat} (hF:F.length≤12) {L:List Pat} {q:Pat} (hL:zue F L) (hq:zag q=true) (hqF:∀ j,j<160→hbit q.mask j=true→j∈F) (hk:big≤k) :
    ∃ L',zft k L q=some L'∧zue F L'∧∀ h,zk8 L' h↔zk8 L h∧zam q h=false:=by
  have hk160:160<k:=Nat.lt_of_lt_of_le (by decide) hk;have hfew:=hL.few hF
  have key:∀ m i l2,i≤L.length→L.length - i<m→zue F l2→(∀ h,zk8 l2 h↔zk8 (L.take i) h∧zam q h=false)→∃ L',zbm k L q m (i:Int) l2 l2.length=some (L',L'.length)∧zue F L'∧∀ h,zk8 L' h↔zk8 L h∧zam q h=false:=by
    intro m
    induction m with
    |zero=>intro i l2 h1 h2;omega
    |succ m ih =>
      intro i l2 h1 h2 hA hH;rw [zbm];by_cases c:i<L.length
      · have hmem:=List.getElem_mem c;obtain ⟨D,e,hD⟩:=yao (k:=k) (hL.right _ hmem) hq hk160;rw [if_pos (zah c),if_pos ⟨by omega,zah c⟩,zcx c,e,Option.bind_some,zbq i (by omega)];have hsplit:L=L.take i++L[i] :: L.drop (i+1):=by rw [← List.drop_eq_getElem_cons c,List.take_append_drop]
        have hcross:∀ r,r∈L.take i→∀ h,¬ (zam r h=true∧zam L[i] h=true):=by
          have:=hL.apart;rw [hsplit] at this;intro r hr;exact (List.pairwise_append.1 this).2.2 r hr _ (.head _)
        have hA2:zue F (l2++D):=by
          refine ⟨fun r hr=>?_,fun r hr j hj hm=>?_,List.pairwise_append.2 ⟨hA.apart,hD.apart,fun r hr s hs h=>?_⟩⟩
          · rcases List.mem_append.1 hr with x|x
            · exact hA.right r x
            · exact hD.right r x
          · rcases List.mem_append.1 hr with x|x
            · exact hA.mask r x j hj hm
            · rcases hD.mask r x j hj hm with y|y
              · exact hL.mask _ hmem j hj y
              · exact hqF j hj y
          · rintro ⟨x,y⟩;obtain ⟨⟨r',z1,z2⟩,_⟩:=(hH h).1 ⟨r,hr,x⟩;have:=((hD.heads h).1 ⟨s,hs,y⟩).1;exact hcross r' z1 h ⟨z2,this⟩
        have hH2:∀ h,zk8 (l2++D) h↔zk8 (L.take (i+1)) h∧zam q h=false:=fun h=>by
          rw [zqf,List.take_add_one,List.getElem?_eq_getElem c,Option.toList_some,zqf,hH h];have e1:zk8 D h↔zam L[i] h=true∧zam q h=false:=hD.heads h;have e2:zk8 [L[i]] h↔zam L[i] h=true:=⟨fun ⟨r,hr,hm⟩=>by cases List.mem_singleton.1 hr;exact hm,fun hm=>⟨_,List.mem_singleton.2 rfl,hm⟩⟩;rw [e1,e2];constructor
          · rintro (⟨a,b⟩|⟨a,b⟩)
            · exact ⟨.inl a,b⟩
            · exact ⟨.inr a,b⟩
          · rintro ⟨a|a,b⟩
            · exact .inl ⟨a,b⟩
            · exact .inr ⟨a,b⟩
        have hfew2:=hA2.few hF;rw [List.length_append] at hfew2;rw [if_pos (by omega)];have:=ih (i+1) (l2++D) (by omega) (by omega) hA2 hH2;by_cases cz:D.length=0
        · rw [if_pos cz];have ez:=List.eq_nil_of_length_eq_zero cz;rw [ez,List.append_nil] at this;exact this
        · rw [if_neg cz];rw [List.length_append] at this;exact this
      · obtain rfl:i=L.length:=by omega
        rw [if_neg (by omega)];rw [List.take_length] at hH;exact ⟨l2,rfl,hA,hH⟩
  obtain ⟨L',e,h1,h2⟩:=key k 0 [] (Nat.zero_le _) (by simp only [big] at hk;omega) ⟨fun r hr=>by simp at hr,fun r hr=>by simp at hr,List.Pairwise.nil⟩ (fun h=>⟨fun ⟨r,hr,_⟩=>by simp at hr,fun ⟨⟨r,hr,_⟩,_⟩=>by simp at hr⟩);refine ⟨L',?_,h1,h2⟩;unfold zft;rw [show ((0:Nat):Int)=0 from rfl,show (([]:List Pat).length)=0 from rfl] at e;rw [e,Option.bind_some,if_pos rfl]
theorem yj1 {k:Nat} {F:List Nat} (hF:F.length≤12) {p:Pat} {l:List Pat} (hp:zag p=true) (hpF:∀ j,j<160→hbit p.mask j=true→j∈F) (hl:∀ q,q∈l→zag q=true) (hlF:∀ q,q∈l→∀ j,j<160→hbit q.mask j=true→j∈F) (hlen:l.length≤1000) (hk:big≤k) :
    ∃ L,zch k l k [p] 0=some L∧zue F L∧∀ h,zk8 L h↔zam p h=true∧∀ q,q∈l→zam q h=false:=by
  have key:∀ m i L,i≤l.length→l.length - i<m→zue F L→(∀ h,zk8 L h↔zam p h=true∧∀ q,q∈l.take i→zam q h=false)→∃ L',zch k l m L (i:Int)=some L'∧zue F L'∧∀ h,zk8 L' h↔zam p h=true∧∀ q,q∈l→zam q h=false:=by
    intro m
    induction m with
    |zero=>intro i L h1 h2;omega
    |succ m ih =>
      intro i L h1 h2 hA hH;rw [zch];by_cases c:i<l.length
      · have hmem:=List.getElem_mem c;obtain ⟨L',e,hA',hH'⟩:=zxp hF hA (hl _ hmem) (hlF _ hmem) hk;rw [if_pos (zah c),if_pos ⟨by omega,zah c⟩,zcx c,e,Option.bind_some,zbq i (by omega)];refine ih (i+1) L' (by omega) (by omega) hA' fun h=>?_;rw [hH',hH,List.take_add_one,List.getElem?_eq_getElem c,Option.toList_some];constructor
        · rintro ⟨⟨a,b⟩,d⟩;refine ⟨a,fun q hq=>?_⟩;rcases List.mem_append.1 hq with x|x
          · exact b q x
          · cases List.mem_singleton.1 x;exact d
        · rintro ⟨a,b⟩;exact ⟨⟨a,fun q hq=>b q (List.mem_append.2 (.inl hq))⟩,b _ (List.mem_append.2 (.inr (List.mem_singleton.2 rfl)))⟩
      · obtain rfl:i=l.length:=by omega
        rw [if_neg (by omega)];rw [List.take_length] at hH;exact ⟨L,rfl,hA,hH⟩
  refine key k 0 [p] (Nat.zero_le _) (by simp only [big] at hk;omega) ⟨fun r hr=>by cases List.mem_singleton.1 hr;exact hp,fun r hr=>by cases List.mem_singleton.1 hr;exact hpF,List.pairwise_singleton _ _⟩ fun h=>?_;constructor
  · rintro ⟨r,hr,hm⟩;cases List.mem_singleton.1 hr;exact ⟨hm,fun q hq=>by simp at hq⟩
  · rintro ⟨hm,_⟩;exact ⟨p,List.mem_singleton.2 rfl,hm⟩
theorem yjw {k:Nat} {L:List Pat} (hL:∀ r,r∈L→zag r=true) (h0:0<L.length) (hlen:L.length≤4096) (hk:big≤k):∃ x,zbt k L k 1 ((gx L 0).bits)=some x∧(∃ r,r∈L∧r.bits=x)∧∀ r,r∈L→¬ ltH r.bits x:=by
  have key:∀ m i (x:Ar 10),i≤L.length→L.length - i<m→(∃ r,r∈L∧r.bits=x)→(∀ r,r∈L.take i→¬ ltH r.bits x)→∃ y,zbt k L m (i:Int) x=some y∧(∃ r,r∈L∧r.bits=y)∧∀ r,r∈L→¬ ltH r.bits y:=by
    intro m
    induction m with
    |zero=>intro i x h1 h2;omega
    |succ m ih =>
      intro i x h1 h2 hx hm;rw [zbt];by_cases c:i<L.length
      · have hmem:=List.getElem_mem c;obtain ⟨r0,hr0,e0⟩:=hx;have rx:zac x=true:=by rw [← e0];exact (zaj.1 (hL _ hr0)).2.1
        have ri:=(zaj.1 (hL _ hmem)).2.1;obtain ⟨cc,e,hc⟩:=zqt (k:=k) ri rx (by simp only [big] at hk;omega);rw [if_pos (zah c),if_pos ⟨by omega,zah c⟩,zcx c,e,Option.bind_some,zbq i (by omega)];by_cases c2:cc<0
        · rw [if_pos c2];have hlt:=hc.neg.1 c2;refine ih (i+1) _ (by omega) (by omega) ⟨_,hmem,rfl⟩ fun r hr=>?_;rw [List.take_add_one,List.getElem?_eq_getElem c,Option.toList_some] at hr;rcases List.mem_append.1 hr with z|z
          · exact fun q=>hm r z (z0g q hlt)
          · cases List.mem_singleton.1 z;exact zmb
        · rw [if_neg c2];refine ih (i+1) x (by omega) (by omega) ⟨r0,hr0,e0⟩ fun r hr=>?_;rw [List.take_add_one,List.getElem?_eq_getElem c,Option.toList_some] at hr;rcases List.mem_append.1 hr with z|z
          · exact hm r z
          · cases List.mem_singleton.1 z;exact fun q=>c2 (hc.neg.2 q)
      · obtain rfl:i=L.length:=by omega
        rw [if_neg (by omega)];rw [List.take_length] at hm;exact ⟨x,rfl,hx,hm⟩
  have hg:gx L 0=L[0]:=zcx (i:=0) h0
  have:=key k 1 ((gx L 0).bits) (by omega) (by simp only [big] at hk;omega) ⟨_,List.getElem_mem h0,by rw [hg]⟩ fun r hr=>by
    rw [List.take_add_one,List.take_zero,List.nil_append,List.getElem?_eq_getElem h0,Option.toList_some] at hr;cases List.mem_singleton.1 hr;rw [hg];exact zmb
  exact this
theorem z2v {k:Nat} {F:List Nat} (hF:F.length≤12) {p:Pat} {l:List Pat} (hp:zag p=true) (hpF:∀ j,j<160→hbit p.mask j=true→j∈F) (hl:∀ q,q∈l→zag q=true) (hlF:∀ q,q∈l→∀ j,j<160→hbit q.mask j=true→j∈F) (hlen:l.length≤1000) (hk:big≤k) :
    ∃ r,zhm k p l=some r∧Res p l r:=by
  obtain ⟨L,e,hA,hH⟩:=yj1 hF hp hpF hl hlF hlen hk;have hfew:=hA.few hF;unfold zhm;rw [e,Option.bind_some];have hout:∀ h,Out p l h→zk8 L h:=fun h ho=>(hH h).2 ⟨ho.into,ho.no⟩;by_cases c:(L.length:Int)=0
  · rw [if_pos c];have ez:=List.eq_nil_of_length_eq_zero (by omega:L.length=0);refine ⟨_,rfl,.inr ⟨rfl,fun h ho=>?_⟩⟩;obtain ⟨r,hr,_⟩:=hout h ho;rw [ez] at hr;cases hr
  · rw [if_neg c,if_pos ⟨by omega,by omega⟩];obtain ⟨x,e2,⟨r,hr,hrx⟩,hm⟩:=yjw (k:=k) hA.right (by omega) hfew hk;rw [e2,Option.bind_some];refine ⟨_,rfl,.inl ⟨rfl,⟨?_,fun h' ho=>?_⟩⟩⟩
    · have hx:=(hH x).1 ⟨r,hr,by rw [← hrx];exact zaz.2 fun i _ _=>rfl⟩;exact ⟨by rw [← hrx];exact (zaj.1 (hA.right r hr)).2.1,hx.1,hx.2⟩
    · obtain ⟨s,hs,hsm⟩:=hout h' ho;have hsr:=hA.right s hs;have hls:=(zvo (l:=[]) hsr (fun q hq=>by cases hq)).least h' ⟨ho.right,hsm,fun q hq=>by cases hq⟩;have hms:=hm s hs;have rx:zac x=true:=by rw [← hrx];exact (zaj.1 (hA.right r hr)).2.1
      rcases z5k (zaj.1 hsr).2.1 rx with q|q|q
      · rw [← q];exact hls
      · exact absurd q hms
      · exact fun z=>hls (z0g z q)
end
section
open Go Go.RowKit
set_option maxRecDepth 100000
def za4 (k:Nat) (t:List Rule) (k_:Int):Nat→Int→(List Pat)→Option (List Pat)
 |0,_,_=>none
 |m+1,i,l=>(if i<(k_.toNat:Int) then (if (0:Int)≤i∧i<(t.length:Int) then (if (0:Int)≤i∧i<(k_.toNat:Int) then (if i.toNat<l.length then za4 k t k_ m (IntKind.i64.wrap (i+1)) (l.set i.toNat ((gx t i).mat)) else none) else none) else none) else some l)
def zc0 (k:Nat) (t:List Rule) (k_:Int):Option (List Pat):=(if (0:Int)≤k_∧k_.toNat*161≤1000000000 then ((za4 k t k_ k 0 (List.replicate k_.toNat (⟨(zA 10),(zA 10)⟩:Pat)):Option (List Pat)).bind fun s_=>(if s_.length=k_.toNat then some s_ else none)) else none)
set_option maxHeartbeats 8000000 in
theorem zk4 (ax:Axs) (hx:zbe ax) (k:Nat) (t:List Rule) (k_:Int) (v:List Pat) (H:zc0 k t k_=some v):Pure Tryz.prog (EE ax) [] 68 [zbp t,.int .i64 k_] (lPat v):=by
 rw [zc0] at H;refine en [.tmp 4] 24 [0,1] (hx.no _ (by decide)) (fn68 ax) ?_;intro h hh;repeat apply TW.seq
 refine rk [0,1] [] hh ?_;clear hh h;intro h hh;obtain ⟨g1,H⟩:=isg H;repeat apply TW.seq
 refine rk [0,5] [] (f3 hh (yec (k_.toNat)) (f2 ((show (vecC ePat (List.replicate k_.toNat (⟨(zA 10),(zA 10)⟩:Pat))).length=k_.toNat*20 from by rw [zka (fun x=>zcm x),List.length_replicate])) (z08 ax))) ?_;clear hh h;intro h hh;repeat apply TW.seq
 refine rk [0,5,10,11] [] (f2 hh (zjb ax)) ?_;clear hh h;intro h hh;obtain ⟨s_,H1,H⟩:=zad H;repeat apply TW.seq
 refine cu [5] 1 (fun h bs=>(h 5=.arr 0 20 0 k_.toNat k_.toNat (k_.toNat*20))∧bs=[.cells true (k_.toNat*20) (vecC ePat s_)]) ?_ ?_
 ·skip;repeat apply TW.seq
  apply TW.block;repeat apply TW.seq
  refine TW.loopT [0,5,10,11] (fun m h bs=>∃ (i:Int) (l:List Pat),za4 k t k_ m i l=some s_∧(h 0=zbp t∧h 5=.arr 0 20 0 k_.toNat k_.toNat (k_.toNat*20)∧h 10=.int .i64 (k_.toNat:Int)∧h 11=.int .i64 i)∧bs=[.cells true (k_.toNat*20) (vecC ePat l)]) ?_ k _ _ ?_;rotate_left
  ·exact ⟨0,(List.replicate k_.toNat (⟨(zA 10),(zA 10)⟩:Pat)),H1,kq hh,rfl⟩
  clear hh h H1;rintro m h bs ⟨i,l,H1,hh,rfl⟩;rcases m with _|m
  ·rw [za4] at H1;cases H1
  rw [za4] at H1;repeat apply TW.seq
  refine rk [0,5,10,11,12] [] hh ?_;clear hh h;intro h hh;rcases isp H1 with ⟨c2,H1⟩|⟨c2,H1⟩;rotate_left
  ·skip;repeat apply TW.seq
   refine cf (f2 hh (decide_eq_false c2)) ?_;refine xk ?_;cases H1;exact ce hh ⟨kq hh,rfl⟩
  repeat apply TW.seq
  refine ct (f2 hh (decide_eq_true c2)) ?_;repeat apply TW.seq
  refine sk ?_;repeat apply TW.seq
  apply TW.block;repeat apply TW.seq
  refine rk [0,5,6,10,11] [] hh ?_;clear hh h;intro h hh;obtain ⟨g3,H1⟩:=isg H1;obtain ⟨g4,H1⟩:=isg H1;obtain ⟨g5,H1⟩:=isg H1;repeat apply TW.seq
  refine rk [0,5,10,11] [] (f3 hh (zai g3) (f3 (show spl (vecC ePat l) (i.toNat*20) ((((gx t i).mat).mask).l.map (T.int .i64)++((((gx t i).mat).bits).l.map (T.int .i64)))=_ from yd0 ePat 20 ((gx t i).mat) (fun x=>zcm x) g5) (zjb ax) (ti104 ax))) ?_;clear hh h;intro h hh;repeat apply TW.seq
  refine rk [0,5,10,11] [] hh ?_;clear hh h;intro h hh;exact rd m hh ⟨(IntKind.i64.wrap (i+1)),(l.set i.toNat ((gx t i).mat)),H1,kq hh,rfl⟩
 clear hh h;rintro h bs ⟨hh,rfl⟩;repeat apply TW.seq
 refine rk [4] [] hh ?_;clear hh h;intro h hh;obtain ⟨g6,H⟩:=isg H;refine TW.freeze 4 (b:=0) (e:=20) (off:=0) (len:=k_.toNat) (cap:=k_.toNat) (M:=(k_.toNat*20)) (s_.map ePat) (kq hh) (by rfl) (by omega) (by omega) (by rw [List.drop_zero];exact zhi (fun x=>zcm x) g6) (fun t ht=>by obtain ⟨x,_,rfl⟩:=List.mem_map.1 ht;first|rfl|exact zit _|exact zcm _|exact zgs _|exact zcp _ | (rw [List.length_map];rfl)) (by rw [List.length_map];exact g6) (by omega) ?_;rw [zi0 _ _ _ (by simp only [lzA]<;>omega)];simp only [scA];refine gk [4] hh ?_;clear hh h;intro h hh;cases H;exact rt hh
def zbf (k:Nat) (t:List Rule) (k_:Int):Option (Ar 10×Bool):=(((if k_<0 then some true else some (decide ((t.length:Int)≤k_))):Option Bool).bind fun s_=>(if s_=true then some ((zA 10),false) else (if (0:Int)≤k_∧k_<(t.length:Int) then ((zc0 k t k_).bind fun rbefore=>((zgj k ((gx t k_).mat) rbefore).bind fun rOutside=>some (rOutside.1,rOutside.2))) else none)))
set_option maxHeartbeats 8000000 in
theorem zjp (ax:Axs) (hx:zbe ax) (k:Nat) (t:List Rule) (k_:Int) (v:Ar 10×Bool) (H:zbf k t k_=some v):Pure Tryz.prog (EE ax) [] 28 [zbp t,.int .i64 k_] (tupT [.agg (v.1.l.map (T.int .i64)),.bool v.2]):=by
 rw [zbf] at H;refine enN [.cell 4 39,.tmp 5] 26 [0,1] (hx.no _ (by decide)) (fn28 ax) ?_;intro h hh;repeat apply TW.seq
 refine rk [0,1,4] [] hh ?_;clear hh h;intro h hh;obtain ⟨s_,H1,H⟩:=zad H;repeat apply TW.seq
 refine cu [0,1,4,13] 1 (fun h bs=>(h 0=zbp t∧h 1=.int .i64 k_∧h 4=.ptr 0 0 10∧h 13=.bool s_)∧bs=[.cells true 10 ((zA 10).l.map (T.int .i64))]) ?_ ?_
 ·skip;rcases isp H1 with ⟨c1,H1⟩|⟨c1,H1⟩;rotate_left
  ·skip;repeat apply TW.seq
   refine rk [0,1,4,13] [] (f2 hh (decide_eq_false c1)) ?_;clear hh h;intro h hh;cases H1;exact ce hh ⟨kq hh,rfl⟩
  repeat apply TW.seq
  refine rk [0,1,4,13] [] (f2 hh (decide_eq_true c1)) ?_;clear hh h;intro h hh;cases H1;exact ce hh ⟨kq hh,rfl⟩
 clear hh h;rintro h bs ⟨hh,rfl⟩;rcases isb H with ⟨c2,H⟩|⟨c2,H⟩;rotate_left
 ·skip;repeat apply TW.seq
  refine cf (f2 hh c2) ?_;repeat apply TW.seq
  refine sk ?_;obtain ⟨g3,H⟩:=isg H;obtain ⟨rbefore,e4,H⟩:=zad H;obtain ⟨rOutside,e5,H⟩:=zad H;repeat apply TW.seq
  refine dk 8 [4,5] [lPat rbefore] [] [(.tup [.agg (rOutside.1.l.map (T.int .i64)),.bool rOutside.2],stL [.cells true 10 ((zA 10).l.map (T.int .i64))])] (f3 hh c2 (zai g3)) ?_ ?_ ?_
  ·exact ⟨Pure.clr (zk4 ax hx k t k_ rbefore e4 ) (by first|rfl|simp only [c2]),trivial⟩
  ·exact ⟨zak.call (Pure.clr (zqs ax hx k ((gx t k_).mat) rbefore rOutside e5 ) (by first|rfl|simp only [c2])),trivial⟩
  clear hh h;intro h hh;cases H;exact rtc hh
 repeat apply TW.seq
 refine ct (f2 hh c2) ?_;repeat apply TW.seq
 refine rk [4,5] [] (f3 hh c2 (bz39 ax)) ?_;clear hh h;intro h hh;cases H;exact rtc hh
def za6 (k:Nat) (t:List Rule):Nat→Int→(List Int)→Nat→Option (List Int×Nat)
 |0,_,_,_=>none
 |m+1,i,l,n=>(if i<(t.length:Int) then ((zbf k t i).bind fun rHandles=>(if rHandles.2=true then za6 k t m (IntKind.i64.wrap (i+1)) l n else (if (n+1)*9≤1000000000 then za6 k t m (IntKind.i64.wrap (i+1)) (l++[i]) (n+1) else none))) else some (l,n))
def zdu (k:Nat) (t:List Rule):Option (List Int):=((za6 k t k 0 [] 0:Option (List Int×Nat)).bind fun s_=>(if s_.1.length=s_.2 then some s_.1 else none))
set_option maxHeartbeats 8000000 in
theorem ziy (ax:Axs) (hx:zbe ax) (k:Nat) (t:List Rule) (v:List Int) (H:zdu k t=some v):Pure Tryz.prog (EE ax) [] 30 [zbp t] (ints v):=by
 rw [zdu] at H;refine en [.tmp 2] 26 [0] (hx.no _ (by decide)) (fn30 ax) ?_;intro h hh;repeat apply TW.seq
 refine rk [0] [] hh ?_;clear hh h;intro h hh;repeat apply TW.seq
 refine rk [0,3] [] hh ?_;clear hh h;intro h hh;refine vk 3 1 [0,3] hh ?_;clear hh h;intro h hh;repeat apply TW.seq
 refine rk [0,3,8,9] [] hh ?_;clear hh h;intro h hh;obtain ⟨s_,H1,H⟩:=zad H;repeat apply TW.seq
 refine cu [3] 1 (fun h bs=>(h 3=.arr 0 1 0 s_.2 s_.2 s_.2)∧bs=[.cells false s_.2 (s_.1.map (T.int .i64))]) ?_ ?_
 ·skip;repeat apply TW.seq
  apply TW.block;repeat apply TW.seq
  refine TW.loopT [0,3,8,9] (fun m h bs=>∃ (i:Int) (l:List Int) (n:Nat),za6 k t m i l n=some s_∧(h 0=zbp t∧h 3=.arr 0 1 0 n n n∧h 8=.int .i64 (t.length:Int)∧h 9=.int .i64 i)∧bs=[.cells false n (l.map (T.int .i64))]) ?_ k _ _ ?_;rotate_left
  ·exact ⟨0,[],0,H1,kq hh,rfl⟩
  clear hh h H1;rintro m h bs ⟨i,l,n,H1,hh,rfl⟩;rcases m with _|m
  ·rw [za6] at H1;cases H1
  rw [za6] at H1;repeat apply TW.seq
  refine rk [0,3,8,9,10] [] hh ?_;clear hh h;intro h hh;rcases isp H1 with ⟨c1,H1⟩|⟨c1,H1⟩;rotate_left
  ·skip;repeat apply TW.seq
   refine cf (f2 hh (decide_eq_false c1)) ?_;refine xk ?_;cases H1;exact ce hh ⟨kq hh,rfl⟩
  repeat apply TW.seq
  refine ct (f2 hh (decide_eq_true c1)) ?_;repeat apply TW.seq
  refine sk ?_;repeat apply TW.seq
  apply TW.block;repeat apply TW.seq
  refine rk [0,3,4,8,9] [] hh ?_;clear hh h;intro h hh;obtain ⟨rHandles,e2,H1⟩:=zad H1;repeat apply TW.seq
  refine rkc [0,3,4,6,8,9] [] [(.tup [.agg (rHandles.1.l.map (T.int .i64)),.bool rHandles.2],stL [.cells false n (l.map (T.int .i64))])] hh ?_ ?_
  ·exact ⟨zak.call ((zjp ax hx k t i rHandles e2 ).call _),trivial⟩
  clear hh h;intro h hh;repeat apply TW.seq
  refine rk [0,3,4,8,9,19] [] hh ?_;clear hh h;intro h hh;rcases isb H1 with ⟨c3,H1⟩|⟨c3,H1⟩;rotate_left
  ·skip;repeat apply TW.seq
   refine ct (f2 hh c3) ?_;obtain ⟨g4,H1⟩:=isg H1;repeat apply TW.seq
   refine rg [] [] [.cells false (n+1) ((l++[i]).map (T.int .i64)),.cells true 10 (rHandles.1.l.map (T.int .i64))] (fun h=>h 0=zbp t∧h 3=.arr 0 1 0 (n+1) (n+1) (n+1)∧h 8=.int .i64 (t.length:Int)∧h 9=.int .i64 i) (f2 hh c3) trivial ?_;clear hh h;intro h hh;repeat apply TW.seq
   refine rk [0,3,8,9] [] (f2 hh c3) ?_;clear hh h;intro h hh;exact rd m hh ⟨(IntKind.i64.wrap (i+1)),(l++[i]),(n+1),H1,kq hh,rfl⟩
  repeat apply TW.seq
  refine cf (f2 hh c3) ?_;repeat apply TW.seq
  refine sk ?_;repeat apply TW.seq
  refine rk [0,3,8,9] [] (f2 hh c3) ?_;clear hh h;intro h hh;exact rd m hh ⟨(IntKind.i64.wrap (i+1)),l,n,H1,kq hh,rfl⟩
 clear hh h;rintro h bs ⟨hh,rfl⟩;repeat apply TW.seq
 refine rk [2] [] hh ?_;clear hh h;intro h hh;obtain ⟨g5,H⟩:=isg H;refine TW.freeze 2 (b:=0) (e:=1) (off:=0) (len:=s_.2) (cap:=s_.2) (M:=s_.2) (s_.1.map (T.int .i64)) (kq hh) (by rfl) (by omega) (by omega) (by rw [List.drop_zero,Nat.mul_one,zhs (fun _=>rfl),List.take_of_length_le (by rw [List.length_map];omega)]) (fun t ht=>by obtain ⟨x,_,rfl⟩:=List.mem_map.1 ht;first|rfl|exact zit _|exact zcm _|exact zgs _|exact zcp _ | (rw [List.length_map];rfl)) (by rw [List.length_map];exact g5) (by omega) ?_;rw [zi0 _ _ _ (by simp only [lzA]<;>omega)];simp only [scA];refine gk [2] hh ?_;clear hh h;intro h hh;cases H;exact rt hh
def za9 (k:Nat) (t:List Rule) (l:List Int):Nat→Int→(List Rule)→Nat→Option (List Rule×Nat)
 |0,_,_,_=>none
 |m+1,i,l2,n=>(if i<(t.length:Int) then (if (0:Int)≤i∧i<(t.length:Int) then ((zcn k l i).bind fun rint=>(if rint=true then za9 k t l m (IntKind.i64.wrap (i+1)) l2 n else (if (n+1)*201≤1000000000 then za9 k t l m (IntKind.i64.wrap (i+1)) (l2++[(⟨(gx t i).prio,((gx t i).mat),(gx t i).step,(gx t i).outs⟩:Rule)]) (n+1) else none))) else none) else some (l2,n))
def zcd (k:Nat) (t:List Rule) (l:List Int):Option (List Rule):=((za9 k t l k 0 [] 0:Option (List Rule×Nat)).bind fun s_=>(if s_.1.length=s_.2 then some s_.1 else none))
set_option maxHeartbeats 8000000 in
theorem zg3 (ax:Axs) (hx:zbe ax) (k:Nat) (t:List Rule) (l:List Int) (v:List Rule) (H:zcd k t l=some v):Pure Tryz.prog (EE ax) [] 33 [zbp t,ints l] (zbp v):=by
 rw [zcd] at H;refine en [.tmp 4] 25 [0,1] (hx.no _ (by decide)) (fn33 ax) ?_;intro h hh;repeat apply TW.seq
 refine rk [0,1] [] hh ?_;clear hh h;intro h hh;repeat apply TW.seq
 refine rk [0,1,5] [] hh ?_;clear hh h;intro h hh;refine vk 5 23 [0,1,5] hh ?_;clear hh h;intro h hh;repeat apply TW.seq
 refine rk [1,5,8,9,10] [] hh ?_;clear hh h;intro h hh;obtain ⟨s_,H1,H⟩:=zad H;repeat apply TW.seq
 refine cu [5] 1 (fun h bs=>(h 5=.arr 0 23 0 s_.2 s_.2 (s_.2*23))∧bs=[.cells false (s_.2*23) (vecC zb5 s_.1)]) ?_ ?_
 ·skip;repeat apply TW.seq
  apply TW.block;repeat apply TW.seq
  refine TW.loopT [1,5,8,9,10] (fun m h bs=>∃ (i:Int) (l2:List Rule) (n:Nat),za9 k t l m i l2 n=some s_∧(h 1=ints l∧h 5=.arr 0 23 0 n n (n*23)∧h 8=zbp t∧h 9=.int .i64 (t.length:Int)∧h 10=.int .i64 i)∧bs=[.cells false (n*23) (vecC zb5 l2)]) ?_ k _ _ ?_;rotate_left
  ·exact ⟨0,[],0,H1,kq hh,rfl⟩
  clear hh h H1;rintro m h bs ⟨i,l2,n,H1,hh,rfl⟩;rcases m with _|m
  ·rw [za9] at H1;cases H1
  rw [za9] at H1;repeat apply TW.seq
  refine rk [1,5,8,9,10,11] [] hh ?_;clear hh h;intro h hh;rcases isp H1 with ⟨c1,H1⟩|⟨c1,H1⟩;rotate_left
  ·skip;repeat apply TW.seq
   refine cf (f2 hh (decide_eq_false c1)) ?_;refine xk ?_;cases H1;exact ce hh ⟨kq hh,rfl⟩
  repeat apply TW.seq
  refine ct (f2 hh (decide_eq_true c1)) ?_;repeat apply TW.seq
  refine sk ?_;repeat apply TW.seq
  apply TW.block;obtain ⟨g2,H1⟩:=isg H1;repeat apply TW.seq
  refine rk [1,5,6,7,8,9,10] [] (f2 hh (zai g2)) ?_;clear hh h;intro h hh;obtain ⟨rint,e3,H1⟩:=zad H1;repeat apply TW.seq
  refine rkc [1,5,7,8,9,10,18] [] [(.bool rint,stL [.cells false (n*23) (vecC zb5 l2),.cells true 23 (T.int .i64 ((gx t i).prio) :: ((((gx t i).mat).mask).l.map (T.int .i64)++((((gx t i).mat).bits).l.map (T.int .i64)++[T.int .i64 ((gx t i).step),zdr ((gx t i).outs)])))])] hh ?_ ?_
  ·exact ⟨zak.call ((zkc ax hx k l i rint e3 ).call _),trivial⟩
  clear hh h;intro h hh;rcases isb H1 with ⟨c4,H1⟩|⟨c4,H1⟩;rotate_left
  ·skip;repeat apply TW.seq
   refine ct (f2 hh c4) ?_;obtain ⟨g5,H1⟩:=isg H1;repeat apply TW.seq
   refine rg [] [] [.cells false ((n+1)*23) (vecC zb5 (l2++[(⟨(gx t i).prio,((gx t i).mat),(gx t i).step,(gx t i).outs⟩:Rule)])),.cells true 23 (T.int .i64 ((gx t i).prio) :: ((((gx t i).mat).mask).l.map (T.int .i64)++((((gx t i).mat).bits).l.map (T.int .i64)++[T.int .i64 ((gx t i).step),zdr ((gx t i).outs)])))] (fun h=>h 1=ints l∧h 5=.arr 0 23 0 (n+1) (n+1) ((n+1)*23)∧h 8=zbp t∧h 9=.int .i64 (t.length:Int)∧h 10=.int .i64 i) (f3 hh c4 (f3 ((show vecC zb5 [(⟨(gx t i).prio,((gx t i).mat),(gx t i).step,(gx t i).outs⟩:Rule)]=(T.int .i64 ((⟨(gx t i).prio,((gx t i).mat),(gx t i).step,(gx t i).outs⟩:Rule).prio) :: ((((⟨(gx t i).prio,((gx t i).mat),(gx t i).step,(gx t i).outs⟩:Rule).mat).mask).l.map (T.int .i64)++((((⟨(gx t i).prio,((gx t i).mat),(gx t i).step,(gx t i).outs⟩:Rule).mat).bits).l.map (T.int .i64)++[T.int .i64 ((⟨(gx t i).prio,((gx t i).mat),(gx t i).step,(gx t i).outs⟩:Rule).step),zdr ((⟨(gx t i).prio,((gx t i).mat),(gx t i).step,(gx t i).outs⟩:Rule).outs)]))) from znk.trans rfl)) (el28 ax) (sr28 ax))) trivial ?_;clear hh h;intro h hh;repeat apply TW.seq
   refine rk [1,5,8,9,10] [] (f2 hh c4) ?_;clear hh h;intro h hh;exact rd m hh ⟨(IntKind.i64.wrap (i+1)),(l2++[(⟨(gx t i).prio,((gx t i).mat),(gx t i).step,(gx t i).outs⟩:Rule)]),(n+1),H1,kq hh,rfl⟩
  repeat apply TW.seq
  refine cf (f2 hh c4) ?_;repeat apply TW.seq
  refine sk ?_;repeat apply TW.seq
  refine rk [1,5,8,9,10] [] (f2 hh c4) ?_;clear hh h;intro h hh;exact rd m hh ⟨(IntKind.i64.wrap (i+1)),l2,n,H1,kq hh,rfl⟩
 clear hh h;rintro h bs ⟨hh,rfl⟩;repeat apply TW.seq
 refine rk [4] [] hh ?_;clear hh h;intro h hh;obtain ⟨g6,H⟩:=isg H;refine TW.freeze 4 (b:=0) (e:=23) (off:=0) (len:=s_.2) (cap:=s_.2) (M:=(s_.2*23)) (s_.1.map zb5) (kq hh) (by rfl) (by omega) (by omega) (by rw [List.drop_zero];exact zhi (fun x=>zcp x) g6) (fun t ht=>by obtain ⟨x,_,rfl⟩:=List.mem_map.1 ht;first|rfl|exact zit _|exact zcm _|exact zgs _|exact zcp _ | (rw [List.length_map];rfl)) (by rw [List.length_map];exact g6) (by omega) ?_;rw [zi0 _ _ _ (by simp only [lzA]<;>omega)];simp only [scA];refine gk [4] hh ?_;clear hh h;intro h hh;cases H;exact rt hh
end
section
open Go Go.RowKit
def bef (t:List Rule) (i:Nat):List Pat:=(t.take i).map fun r=>r.mat
theorem ztw {t:List Rule} {i:Nat} (hi:i≤t.length):(bef t i).length=i:=by unfold bef;rw [List.length_map,List.length_take];omega
theorem z7b {t:List Rule} {i:Nat} (hi:i<t.length):bef t (i+1)=bef t i++[t[i].mat]:=by
  unfold bef;rw [List.take_add_one,List.getElem?_eq_getElem hi,Option.toList_some,List.map_append];rfl
theorem zy1 {k:Nat} (t:List Rule) (n:Nat) (hn:n≤t.length) (ht:t.length≤5000) (hk:big≤k):zc0 k t (n:Int)=some (bef t n):=by
  have key:∀ m j,j≤n→n - j<m→za4 k t (n:Int) m (j:Int) (bef t j++List.replicate (n - j) (⟨zA 10,zA 10⟩:Pat))=some (bef t n):=by
    intro m
    induction m with
    |zero=>intro j h1 h2;omega
    |succ m ih =>
      intro j h1 h2;rw [za4];have hl:=ztw (t:=t) (i:=j) (by omega);by_cases c:j<n
      · have ct:j<t.length:=by omega
        rw [if_pos (by omega),if_pos ⟨by omega,by omega⟩,if_pos ⟨by omega,by omega⟩,if_pos (by rw [List.length_append,List.length_replicate,hl];omega),zcx ct,zbq j (by omega)];have:=ih (j+1) (by omega) (by omega);rw [z7b ct] at this;rw [show ((j:Int)).toNat=j by omega,List.set_append_right _ _ (by omega),hl,Nat.sub_self,show n - j=(n - (j+1))+1 by omega,List.replicate_succ,List.set_cons_zero];rw [List.append_assoc] at this;exact this
      · obtain rfl:j=n:=by omega
        rw [if_neg (by omega),Nat.sub_self,List.replicate_zero,List.append_nil]
  have:=key k 0 (Nat.zero_le _) (by simp only [big] at hk;omega);unfold zc0;rw [if_pos ⟨by omega,by omega⟩];rw [show ((0:Nat):Int)=0 from rfl,show bef t 0=[] from rfl,List.nil_append,Nat.sub_zero] at this;rw [show ((n:Int)).toNat=n by omega,this,Option.bind_some,if_pos (ztw hn)]
theorem zu8 {k:Nat} (t:List Rule) (n:Nat) (hn:n≤t.length) (ht:t.length≤5000) (hk:big≤k):zg4 k t (n:Int)=some (bef t n):=by
  have key:∀ m j,j≤n→n - j<m→zdn k t (n:Int) m (j:Int) (bef t j) (bef t j).length=some (bef t n,(bef t n).length):=by
    intro m
    induction m with
    |zero=>intro j h1 h2;omega
    |succ m ih =>
      intro j h1 h2;rw [zdn];by_cases c:j<n
      · have ct:j<t.length:=by omega
        have hl:=ztw (t:=t) (i:=j) (by omega);rw [if_pos (by omega),if_pos ⟨by omega,by omega⟩,if_pos (by omega),zcx ct,zbq j (by omega)];have:=ih (j+1) (by omega) (by omega);rw [z7b ct,List.length_append,List.length_singleton] at this;exact this
      · obtain rfl:j=n:=by omega
        rw [if_neg (by omega)]
  have:=key k 0 (Nat.zero_le _) (by simp only [big] at hk;omega);unfold zg4;rw [show ((0:Nat):Int)=0 from rfl,show bef t 0=[] from rfl,show (([]:List Pat).length)=0 from rfl] at this;rw [this,Option.bind_some,if_pos rfl]
structure Lit (t:List Rule) (F:List Nat):Prop where
  len:t.length≤1000
  right:∀ r,r∈t→zag r.mat=true
  few:F.length≤12
  mask:∀ r,r∈t→∀ j,j<160→hbit r.mat.mask j=true→j∈F
theorem ybg {t:List Rule} {i:Nat} {q:Pat} (h:q∈bef t i):∃ r,r∈t∧r.mat=q:=by
  unfold bef at h;obtain ⟨r,hr,rfl⟩:=List.mem_map.1 h;exact ⟨r,List.mem_of_mem_take hr,rfl⟩
theorem z8p {k:Nat} {t:List Rule} {F:List Nat} (h:Lit t F) {i:Nat} (hi:i<t.length) (hk:big≤k):∃ r,zbf k t (i:Int)=some r∧zcs k t (i:Int)=some r∧Res t[i].mat (bef t i) r:=by
  have hlen:=h.len;have hb:∀ q,q∈bef t i→zag q=true:=fun q hq=>by obtain ⟨r,hr,rfl⟩:=ybg hq;exact h.right r hr
  have hbF:∀ q,q∈bef t i→∀ j,j<160→hbit q.mask j=true→j∈F:=fun q hq=>by obtain ⟨r,hr,rfl⟩:=ybg hq;exact h.mask r hr
  have hbl:=ztw (t:=t) (i:=i) (by omega);obtain ⟨r,e1,R1⟩:=z1y hk (h.right _ (List.getElem_mem hi)) hb (by omega);obtain ⟨s,e2,R2⟩:=z2v h.few (h.right _ (List.getElem_mem hi)) (h.mask _ (List.getElem_mem hi)) hb hbF (by omega) hk;obtain rfl:=R1.uniq R2;refine ⟨r,?_,?_,R1⟩
  · unfold zbf;rw [if_neg (by omega),Option.bind_some,if_neg (by simp;omega),if_pos ⟨by omega,zah hi⟩,zy1 t i (by omega) (by omega) hk,Option.bind_some,zcx hi,e1];rfl
  · unfold zcs;rw [if_neg (by omega),Option.bind_some,if_neg (by simp;omega),if_pos ⟨by omega,zah hi⟩,zu8 t i (by omega) (by omega) hk,Option.bind_some,zcx hi,e2];rfl
theorem z8q {k:Nat} {t:List Rule} {i:Int} (hi:¬ (0≤i∧i<(t.length:Int))):zbf k t i=some (zA 10,false)∧zcs k t i=some (zA 10,false):=by
  unfold zbf zcs;by_cases c:i<0
  · rw [if_pos c];exact ⟨rfl,rfl⟩
  · rw [if_neg c,decide_eq_true (by omega)];exact ⟨rfl,rfl⟩
end
section
open Go Go.RowKit
theorem zzr {k:Nat} (l:List Pat) (hl:l.length≤1000) (hk:big≤k):zgg k l=some (l.all zag):=by
  unfold zgg
  rw [zmd (L:=zb0 k l) l false zag (by simp only [big];omega) (fun m j h=>by
    rw [zb0,if_pos (zah h),if_pos ⟨by omega,zah h⟩,zcx h,zsl _ (by simp only [big] at hk;omega),Option.bind_some]) (fun m=>by rw [zb0,if_neg (by omega)]) (by simp only [big] at hk;omega),Option.bind_some]
  cases l.all zag<;>rfl
def zpe (x:Ar 10) (i:Nat):Nat:=((List.range i).filter fun j=>!hbit x j).length
theorem z78 (x:Ar 10) (i:Nat):zpe x (i+1)+(hbit x i).toNat=zpe x i+1:=by
  unfold zpe;rw [List.range_succ,List.filter_append,List.length_append];cases h:hbit x i<;>simp [List.filter,h]
theorem yff (x:Ar 10) (i:Nat):zpe x i≤i:=by
  unfold zpe;exact Nat.le_trans (List.length_filter_le _ _) (by rw [List.length_range];exact Nat.le_refl _)
theorem yeg {k:Nat} {p:Pat} (hp:zac p.mask=true) (hk:160<k):zlf k p=some ((zpe p.mask 160:Nat):Int):=by
  have key:∀ m i,i≤160→160 - i<m→zd6 k p m ((zpe p.mask i:Nat):Int) (i:Int)=some ((zpe p.mask 160:Nat):Int):=by
    intro m
    induction m with
    |zero=>intro i h1 h2;omega
    |succ m ih =>
      intro i h1 h2;rw [zd6];by_cases c:i<160
      · have h3:=z78 p.mask i;have h4:=yff p.mask i;rw [if_pos (ye0 c),zgx hp c (by omega),Option.bind_some,zbq i (by omega),zbq _ (by omega)]
        have e:IntKind.i64.wrap (((zpe p.mask i+1:Nat):Int) - ((hbit p.mask i).toNat:Int))=((zpe p.mask (i+1):Nat):Int):=by
          have:(hbit p.mask i).toNat≤1:=by cases hbit p.mask i<;>decide
          rw [wr64 (by omega)];omega
        rw [e];exact ih (i+1) (by omega) (by omega)
      · obtain rfl:i=160:=by omega
        rw [if_neg (by decide)]
  have:=key k 0 (by omega) (by omega);unfold zlf;change zd6 k p k 0 0=_ at this;rw [this];rfl
theorem ydz:zac (zA 10)=true:=by decide
theorem yk7 (j:Nat):hbit (zA 10) j=false:=by
  have e:∀ i:Nat,hw (zA 10) i=0:=fun i=>by
    show ((List.replicate 10 (0:Int)).getD i default).toNat=0;rw [List.getD_eq_getElem?_getD,List.getElem?_replicate];by_cases h:i<10
    · rw [if_pos h];rfl
    · rw [if_neg h];rfl
  unfold hbit;rw [e,Nat.zero_testBit]
theorem yap {k:Nat} {l:List Pat} (hl:∀ q,q∈l→zag q=true) (hlen:l.length≤1000) (hk:big≤k):∃ F:List Nat,zjv k l=some ((F.length:Nat):Int)∧∀ q,q∈l→∀ j,j<160→hbit q.mask j=true→j∈F:=by
  have hk160:160<k:=Nat.lt_of_lt_of_le (by decide) hk
  have key:∀ m i x,i≤l.length→l.length - i<m→zac x=true→(∀ j,j<160→hbit x j=(l.take i).any fun q=>hbit q.mask j)→∃ y,zei k l m (i:Int) x=some y∧zac y=true∧∀ j,j<160→hbit y j=l.any fun q=>hbit q.mask j:=by
    intro m
    induction m with
    |zero=>intro i x h1 h2;omega
    |succ m ih =>
      intro i x h1 h2 hx hb;rw [zei];by_cases c:i<l.length
      · have hq:=(zaj.1 (hl _ (List.getElem_mem c))).1;have hmod:zag ⟨l[i].mask,l[i].mask⟩=true:=zaj.2 ⟨hq,hq,fun j _ h=>h⟩;obtain ⟨y,e,hA⟩:=yaq (k:=k) hmod hx hk160;rw [if_pos (zah c),if_pos ⟨by omega,zah c⟩,zcx c,e,Option.bind_some,zbq i (by omega)];refine ih (i+1) y (by omega) (by omega) hA.1 fun j hj=>?_;rw [hA.2 j hj,List.take_add_one,List.getElem?_eq_getElem c,Option.toList_some,List.any_append,hb j hj];show (if hbit l[i].mask j=true then hbit l[i].mask j else _)=_
        cases hm:hbit l[i].mask j with
        |true=>simp [hm]
        |false=>simp [hm]
      · obtain rfl:i=l.length:=by omega
        rw [if_neg (by omega)];rw [List.take_length] at hb;exact ⟨x,rfl,hx,hb⟩
  obtain ⟨y,e,hy,hb⟩:=key k 0 (zA 10) (Nat.zero_le _) (by simp only [big] at hk;omega) ydz (fun j hj=>by rw [yk7];rfl);refine ⟨(List.range 160).filter (hbit y),?_,fun q hq j hj hm=>List.mem_filter.2 ⟨List.mem_range.2 hj,by rw [hb j hj,List.any_eq_true];exact ⟨q,hq,hm⟩⟩⟩;unfold zjv;rw [show ((0:Nat):Int)=0 from rfl] at e;rw [e,Option.bind_some,yeg (p:=⟨y,zA 10⟩) hy hk160,Option.bind_some];have h1:=zpg (hbit y) (List.range 160);rw [List.length_range] at h1;have h2:zpe y 160=((List.range 160).filter fun x=>!hbit y x).length:=rfl;rw [show zpe (⟨y,zA 10⟩:Pat).mask 160=zpe y 160 from rfl,wr64 (by omega)];congr 1;omega
theorem yjt {k:Nat} {l:List Pat} (hlen:l.length≤1000) (hk:big≤k):∃ b,znu k l 12=some b∧(b=true→(∀ q,q∈l→zag q=true)∧∃ F:List Nat,F.length≤12∧∀ q,q∈l→∀ j,j<160→hbit q.mask j=true→j∈F):=by
  unfold znu;rw [zzr l hlen hk,Option.bind_some]
  cases hr:l.all zag with
  |false=>exact ⟨_,by rw [if_neg (by simp)],fun h=>by cases h⟩
  |true =>
    have hl:=fun q hq=>(List.all_eq_true.1 hr) q hq;rw [if_pos rfl];by_cases c:(l.length:Int)≤12
    · rw [if_pos c];obtain ⟨F,e,hF⟩:=yap hl hlen hk;rw [e,Option.bind_some];refine ⟨_,rfl,fun h=>⟨hl,F,?_,hF⟩⟩;have:=of_decide_eq_true h;omega
    · rw [if_neg c];exact ⟨_,rfl,fun h=>by cases h⟩
theorem yam {k:Nat} {t:List Rule} (ht:t.length≤1000) (hk:big≤k):∃ b,zjr k t=some b∧(b=true→∃ F,Lit t F):=by
  unfold zjr;have hbl:=ztw (t:=t) (i:=t.length) (Nat.le_refl _);obtain ⟨b,e,h⟩:=yjt (k:=k) (l:=bef t t.length) (by omega) hk;rw [zu8 t t.length (Nat.le_refl _) (by omega) hk,Option.bind_some,e,Option.bind_some];refine ⟨b,rfl,fun hb=>?_⟩;obtain ⟨h1,F,h2,h3⟩:=h hb;have hm:∀ r,r∈t→r.mat∈bef t t.length:=fun r hr=>by unfold bef;rw [List.take_length];exact List.mem_map.2 ⟨r,hr,rfl⟩
  exact ⟨F,ht,fun r hr=>h1 _ (hm r hr),h2,fun r hr=>h3 _ (hm r hr)⟩
end
section
open Go Go.RowKit
theorem zx9 {α:Type} [Inhabited α] {l:List α} {i:Nat} (h:i<l.length):l.getD i default∈l:=by
  rw [List.getD_eq_getElem?_getD,List.getElem?_eq_getElem h];exact List.getElem_mem h
def zlp (n:Net) (k:Int):Prop:=0≤k∧k<(n.nodes.length:Int)
instance (n:Net) (k:Int):Decidable (zlp n k):=by unfold zlp;infer_instance
structure zrq (n:Net):Prop where
  nodes:n.nodes.length≤10
  links:n.links.length≤24
  frm:∀ k,k<n.links.length→0≤(n.links.getD k default).frm∧(n.links.getD k default).frm<(n.nodes.length:Int)
  to:∀ k,k<n.links.length→0≤(n.links.getD k default).to∧(n.links.getD k default).to<(n.nodes.length:Int)
  apart:∀ k,k<n.links.length→(n.links.getD k default).frm≠(n.links.getD k default).to
  cap:∀ k,k<n.links.length→0≤(n.links.getD k default).cap∧(n.links.getD k default).cap≤1048576
theorem yk2 (k:Nat) (s:ByteArray) (hs:s.size<9223372036854775808):∀ (m i:Nat),i≤s.size→s.size - i<m→∃ r,zd5 k s m (i:Int)=some r:=by
  intro m
  induction m with
  |zero=>intro i h1 h2;omega
  |succ m ih =>
    intro i h1 h2;rw [zd5];by_cases c:(i:Int)<(s.size:Int)
    · obtain ⟨r,hr⟩:=ih (i+1) (by omega) (by omega);have g:(0:Int)≤(i:Int)∧(i:Int)<(s.size:Int):=⟨by omega,c⟩
      have A1:∃ b,(if (0:Int)≤(i:Int)∧(i:Int)<(s.size:Int) then (if 97≤((bx s (i:Int)).toNat:Int) then some (decide (((bx s (i:Int)).toNat:Int)≤122)) else some false) else none)=some b:=by
        rw [if_pos g];split<;>exact ⟨_,rfl⟩
      have A2:∃ b,(if (0:Int)≤(i:Int)∧(i:Int)<(s.size:Int) then (if 48≤((bx s (i:Int)).toNat:Int) then (if ((bx s (i:Int)).toNat:Int)≤57 then some true else some (decide (((bx s (i:Int)).toNat:Int)=95))) else some (decide (((bx s (i:Int)).toNat:Int)=95))) else none)=some b:=by
        rw [if_pos g];split
        · split<;>exact ⟨_,rfl⟩
        · exact ⟨_,rfl⟩
      obtain ⟨b1,h1⟩:=A1;obtain ⟨b2,h2⟩:=A2;rw [if_pos c,h1,h2,zbq i (by omega),hr];simp only [Option.bind_some]
      (repeat' split)<;>exact ⟨_,rfl⟩
    · rw [if_neg c];exact ⟨_,rfl⟩
theorem yf4 {k:Nat} (hk:9223372036854775808≤k) (s:ByteArray) (hs:s.size<9223372036854775808):∃ r,zle k s=some r:=by
  obtain ⟨r,h⟩:=yk2 k s hs k 0 (by omega) (by omega);rw [show ((0:Nat):Int)=0 from rfl] at h;unfold zle;rw [h,Option.bind_some]
  cases r with
  |inl b=>exact ⟨_,rfl⟩
  |inr u=>simp only [Sum.elim_inr];split<;>exact ⟨_,rfl⟩
theorem yes (k:Nat) (l:List ByteArray) (e:Nat) (he:e<l.length) (hl:l.length<9223372036854775808):∀ (m i:Nat),i≤e→e - i<m→∃ r,zea k l (e:Int) m (i:Int)=some r:=by
  intro m
  induction m with
  |zero=>intro i h1 h2;omega
  |succ m ih =>
    intro i h1 h2;rw [zea];by_cases c:(i:Int)<(e:Int)
    · obtain ⟨r,hr⟩:=ih (i+1) (by omega) (by omega);rw [if_pos c,if_pos ⟨by omega,by omega⟩,zbq i (by omega),hr];split<;>exact ⟨_,rfl⟩
    · rw [if_neg c];exact ⟨_,rfl⟩
theorem yeu {k:Nat} (hk:9223372036854775808≤k) (l:List ByteArray) (hl:l.length<9223372036854775808) (hs:∀ s,s∈l→s.size<9223372036854775808):∀ (m i:Nat),i≤l.length→l.length - i<m→∃ r,zeb k l m (i:Int)=some r:=by
  intro m
  induction m with
  |zero=>intro i h1 h2;omega
  |succ m ih =>
    intro i h1 h2;rw [zeb];by_cases c:(i:Int)<(l.length:Int)
    · have hi:i<l.length:=by omega
      obtain ⟨r,hr⟩:=ih (i+1) (by omega) (by omega);obtain ⟨b,hb⟩:=yf4 hk (l.getD i default) (hs _ (zx9 hi));obtain ⟨r1,h1⟩:=yes k l i hi hl k 0 (by omega) (by omega);rw [show ((0:Nat):Int)=0 from rfl] at h1;rw [if_pos c,if_pos ⟨by omega,c⟩,zbq i (by omega),zv7 l i,hb,h1,hr]
      cases b with
      |false=>exact ⟨_,rfl⟩
      |true=>cases r1<;>exact ⟨_,rfl⟩
    · rw [if_neg c];exact ⟨_,rfl⟩
theorem zz7 {k:Nat} (hk:9223372036854775808≤k) (l:List ByteArray) (hl:l.length<9223372036854775808) (hs:∀ s,s∈l→s.size<9223372036854775808):∃ r,zia k l=some r:=by
  obtain ⟨r,h⟩:=yeu hk l hl hs k 0 (by omega) (by omega);rw [show ((0:Nat):Int)=0 from rfl] at h;unfold zia;rw [h,Option.bind_some];cases r<;>exact ⟨_,rfl⟩
theorem yf3 (k:Nat) (n:Net) (hn:n.nodes.length≤1000) (hs:∀ x,x∈n.nodes→x.name.size<9223372036854775808):∀ (m i:Nat) (l:List ByteArray),i≤n.nodes.length→n.nodes.length - i<m→l.length=i→(∀ s,s∈l→s.size<9223372036854775808) →
    ∃ l',zed k n m (i:Int) l i=some (l',l'.length)∧l'.length=n.nodes.length∧∀ s,s∈l'→s.size<9223372036854775808:=by
  intro m
  induction m with
  |zero=>intro i l h1 h2;omega
  |succ m ih =>
    intro i l h1 h2 h3 h4;rw [zed];by_cases c:(i:Int)<(n.nodes.length:Int)
    · have hi:i<n.nodes.length:=by omega
      rw [if_pos c,if_pos ⟨by omega,c⟩,if_pos (by omega),zbq i (by omega),zv7 n.nodes i];refine ih (i+1) _ (by omega) (by omega) (by simp [h3]) fun s hm=>?_;rcases List.mem_append.1 hm with q|q
      · exact h4 s q
      · simp only [List.mem_singleton] at q;subst q;exact hs _ (zx9 hi)
    · rw [if_neg c];exact ⟨l,by rw [h3],by omega,h4⟩
theorem yf2 (k:Nat) (n:Net) (hn:n.edges.length≤1000) (hs:∀ x,x∈n.edges→x.name.size<9223372036854775808):∀ (m i:Nat) (l:List ByteArray),i≤n.edges.length→n.edges.length - i<m→l.length=i→(∀ s,s∈l→s.size<9223372036854775808) →
    ∃ l',zec k n m (i:Int) l i=some (l',l'.length)∧l'.length=n.edges.length∧∀ s,s∈l'→s.size<9223372036854775808:=by
  intro m
  induction m with
  |zero=>intro i l h1 h2;omega
  |succ m ih =>
    intro i l h1 h2 h3 h4;rw [zec];by_cases c:(i:Int)<(n.edges.length:Int)
    · have hi:i<n.edges.length:=by omega
      rw [if_pos c,if_pos ⟨by omega,c⟩,if_pos (by omega),zbq i (by omega),zv7 n.edges i];refine ih (i+1) _ (by omega) (by omega) (by simp [h3]) fun s hm=>?_;rcases List.mem_append.1 hm with q|q
      · exact h4 s q
      · simp only [List.mem_singleton] at q;subst q;exact hs _ (zx9 hi)
    · rw [if_neg c];exact ⟨l,by rw [h3],by omega,h4⟩
theorem zlq {k:Nat} {n:Net} (v:Int):zf3 k n v=some (decide (zlp n v)):=by
  unfold zf3 zlp;by_cases h:0≤v
  · rw [if_pos h];simp [h]
  · rw [if_neg h];simp [h]
theorem ym9 (k:Nat) (n:Net) (hn:n.nodes.length≤1000):∀ (m i:Nat),i≤n.nodes.length→n.nodes.length - i<m→∃ r,zeg k n m (i:Int)=some r∧(r=.inr ()∨r=.inl 1):=by
  intro m
  induction m with
  |zero=>intro i h1 h2;omega
  |succ m ih =>
    intro i h1 h2;rw [zeg];by_cases c:(i:Int)<(n.nodes.length:Int)
    · obtain ⟨r,hr,hq⟩:=ih (i+1) (by omega) (by omega);rw [if_pos c,if_pos ⟨by omega,c⟩,zbq i (by omega),hr]
      (repeat' split)<;>first|exact ⟨_,rfl,.inr rfl⟩|exact ⟨_,rfl,hq⟩
    · rw [if_neg c];exact ⟨_,rfl,.inl rfl⟩
def yi7 (n:Net) (l:Link):Prop:=zlp n l.frm∧zlp n l.to∧l.frm≠l.to∧0≤l.cap∧l.cap≤1048576
theorem ym8 (k:Nat) (n:Net) (hn:n.links.length≤10000):∀ (m i:Nat),i≤n.links.length→n.links.length - i<m→(∀ j,j<i→yi7 n (n.links.getD j default))→∃ r,zef k n m (i:Int)=some r∧((r=.inr ()∧∀ j,j<n.links.length→yi7 n (n.links.getD j default))∨r=.inl 1):=by
  intro m
  induction m with
  |zero=>intro i h1 h2;omega
  |succ m ih =>
    intro i h1 h2 h3;rw [zef];by_cases c:(i:Int)<(n.links.length:Int)
    · have hi:i<n.links.length:=by omega
      rw [if_pos c,if_pos ⟨by omega,c⟩,zbq i (by omega),zv7 n.links i,zlq,zlq,Option.bind_some,Option.bind_some];by_cases q1:zlp n (n.links.getD i default).frm
      · rw [if_pos (decide_eq_true q1)];by_cases q2:zlp n (n.links.getD i default).to
        · rw [if_pos (decide_eq_true q2)];by_cases q3:(n.links.getD i default).frm=(n.links.getD i default).to
          · rw [if_pos q3];exact ⟨_,rfl,.inr rfl⟩
          · rw [if_neg q3];by_cases q4:(n.links.getD i default).cap<0
            · rw [if_pos q4];exact ⟨_,rfl,.inr rfl⟩
            · rw [if_neg q4];by_cases q5:1048576<(n.links.getD i default).cap
              · rw [if_pos q5];exact ⟨_,rfl,.inr rfl⟩
              · rw [if_neg q5];exact ih (i+1) (by omega) (by omega) fun j hj=>by rcases Nat.lt_succ_iff_lt_or_eq.1 hj with q|q;exact h3 j q;rw [q];exact ⟨q1,q2,q3,by omega,by omega⟩
        · rw [if_neg (by simpa using q2)];exact ⟨_,rfl,.inr rfl⟩
      · rw [if_neg (by simpa using q1)];exact ⟨_,rfl,.inr rfl⟩
    · rw [if_neg c];exact ⟨_,rfl,.inl ⟨rfl,fun j hj=>h3 j (by omega)⟩⟩
theorem ym7 (k:Nat) (n:Net) (hn:n.edges.length≤1000):∀ (m i:Nat),i≤n.edges.length→n.edges.length - i<m→∃ r,zee k n m (i:Int)=some r∧(r=.inr ()∨r=.inl 1):=by
  intro m
  induction m with
  |zero=>intro i h1 h2;omega
  |succ m ih =>
    intro i h1 h2;rw [zee];by_cases c:(i:Int)<(n.edges.length:Int)
    · obtain ⟨r,hr,hq⟩:=ih (i+1) (by omega) (by omega);rw [if_pos c,if_pos ⟨by omega,c⟩,zbq i (by omega),hr,zlq,Option.bind_some];split
      · exact ⟨_,rfl,hq⟩
      · exact ⟨_,rfl,.inr rfl⟩
    · rw [if_neg c];exact ⟨_,rfl,.inl rfl⟩
structure Held (n:Net):Prop where
  nodes:∀ x,x∈n.nodes→x.name.size<9223372036854775808
  edges:∀ x,x∈n.edges→x.name.size<9223372036854775808
theorem yf7 {k:Nat} (hk:9223372036854775808≤k) (n:Net) (h1:n.nodes.length≤10) (h2:n.links.length≤24) (h3:n.edges.length≤20) (hh:Held n):∃ r,zib k n=some r∧(r=0→zrq n):=by
  unfold zib;rw [if_neg (by omega),if_neg (by omega),Option.bind_some,if_neg (by simp only [decide_eq_true_eq];omega)];obtain ⟨l1,a1,a2,a3⟩:=yf3 k n (by omega) hh.nodes k 0 [] (by omega) (by omega) rfl (fun s hs=>by simp at hs);obtain ⟨l2,b1,b2,b3⟩:=yf2 k n (by omega) hh.edges k 0 [] (by omega) (by omega) rfl (fun s hs=>by simp at hs);obtain ⟨r1,c1⟩:=zz7 hk l1 (by omega) a3;obtain ⟨r2,c2⟩:=zz7 hk l2 (by omega) b3;obtain ⟨d1,e1,g1⟩:=ym9 k n (by omega) k 0 (by omega) (by omega);obtain ⟨d2,e2,g2⟩:=ym8 k n (by omega) k 0 (by omega) (by omega) (fun j hj=>by omega);obtain ⟨d3,e3,g3⟩:=ym7 k n (by omega) k 0 (by omega) (by omega);rw [show ((0:Nat):Int)=0 from rfl] at a1 b1 e1 e2 e3
  have hN:zjt k n=some (l1,l2):=by
    unfold zjt;rw [a1,b1];simp
  rw [hN,Option.bind_some];simp only [c1,c2,Option.bind_some,e1,e2,e3]
  cases r1 with
  |false=>exact ⟨4,rfl,fun h=>by simp at h⟩
  |true =>
    cases r2 with
    |false=>exact ⟨4,rfl,fun h=>by simp at h⟩
    |true =>
      rcases g1 with rfl|rfl
      · rcases g2 with ⟨rfl,hall⟩|rfl
        · have hR:zrq n:=⟨h1,h2,fun j hj=>(hall j hj).1,fun j hj=>(hall j hj).2.1,fun j hj=>(hall j hj).2.2.1,fun j hj=>(hall j hj).2.2.2⟩;rcases g3 with rfl|rfl
          · exact ⟨0,rfl,fun _=>hR⟩
          · exact ⟨1,rfl,fun h=>by simp at h⟩
        · exact ⟨1,rfl,fun h=>by simp at h⟩
      · exact ⟨1,rfl,fun h=>by simp at h⟩
end
section
open Go Go.RowKit
def yj2 (t:List Rule) (j:Int):Int:=if j=0 then 65536 else (gx t (j - 1)).prio
def z57 (n:Net) (steps:Int) (t:List Rule) (j:Nat):Bool:=zv8 n steps (t.getD j default) && decide ((t.getD j default).prio<yj2 t j)
def zwk (n:Net) (steps:Int) (t:List Rule):Int×Int :=
  if steps<0∨1000<steps then (0,1) else if 4000<t.length then (0,2) else
  match (List.range t.length).findSome? (fun j=>if z57 n steps t j=true then none else some ((j:Int),(1:Int))) with
  |some r=>r
  |none=>(0,0)
theorem yan {k:Nat} (n:Net) (steps:Int) (t:List Rule) (ht:z21 t) (hk:big≤k):zjs k n steps t=some (zwk n steps t):=by
  unfold zjs zwk
  have hloop:zce k n steps t k 0=some (sumO ((List.range t.length).findSome? (fun j=>if z57 n steps t j=true then none else some ((j:Int),(1:Int))))):=by
    refine zmc (L:=zce k n steps t) t.length _ ht.1 (fun m j h=>?_) (fun m=>by rw [zce,if_neg (by omega)]) (Nat.lt_of_lt_of_le ht.1 hk);have hb:j<9223372036854775808:=by have:=ht.1;simp only [big] at this;omega
    rw [zce,if_pos (zah h),if_pos ⟨by omega,zah h⟩,zcx h,z7q n steps _ (ht.2 _ (List.getElem_mem h)) hk,Option.bind_some]
    have hg:z57 n steps t j=(zv8 n steps t[j] && decide (t[j].prio<yj2 t j)):=by
      unfold z57;rw [List.getD_eq_getElem?_getD,List.getElem?_eq_getElem h];rfl
    rw [hg]
    cases hf:zv8 n steps t[j] with
    |false=>rfl
    |true =>
      simp only [if_true,Bool.true_and,decide_eq_true_eq];unfold yj2;by_cases c0:0<(j:Int)
      · have e1:IntKind.i64.wrap ((j:Int) - 1)=((j - 1:Nat):Int):=by rw [wr64 (by omega)];omega
        have e2:(j:Int) - 1=((j - 1:Nat):Int):=by omega
        have h2:j - 1<t.length:=by omega
        rw [if_pos c0,e1,if_pos ⟨by omega,by omega⟩,if_neg (show ¬ (j:Int)=0 by omega),e2,zcx h2];by_cases c:t[j - 1].prio≤t[j].prio
        · rw [if_pos c,if_neg (by omega)]
        · rw [if_neg c,if_pos (by omega)]
      · have hp:t[j].prio≤65535:=by
          unfold zv8 at hf;simp only [Bool.and_eq_true,decide_eq_true_eq] at hf;exact hf.1.2
        rw [if_neg c0,if_pos (show (j:Int)=0 by omega),if_pos (by omega)]
  rw [hloop];by_cases c1:steps<0
  · rw [if_pos c1,if_pos (show steps<0∨1000<steps from .inl c1)];rfl
  · rw [if_neg c1];by_cases c2:1000<steps
    · rw [decide_eq_true c2,if_pos (show steps<0∨1000<steps from .inr c2)];rfl
    · rw [decide_eq_false c2,if_neg (show ¬ (steps<0∨1000<steps) by omega),Option.bind_some];simp only [Bool.false_eq_true,if_false];by_cases c3:4000<t.length
      · rw [if_pos (by omega),if_pos c3]
      · rw [if_neg (by omega),if_neg c3,Option.bind_some];cases (List.range t.length).findSome? _<;>rfl
def fewT (t:List Rule) (most:Int):Bool:=t.all (fun r=>decide (r.outs.length≤20) && r.outs.all fun l=>decide (l.length≤10)) && decide ((t.length:Int)≤most)
theorem yjs {k:Nat} (t:List Rule) (most:Int) (ht:z21 t) (hk:big≤k):znp k t most=some (fewT t most):=by
  unfold znp fewT
  rw [zmd (L:=ze4 k t) t false (fun r=>decide (r.outs.length≤20) && r.outs.all fun l=>decide (l.length≤10)) ht.1 (fun m j h=>by
    rw [ze4,if_pos (zah h),if_pos ⟨by omega,zah h⟩,zcx h];by_cases c:20<(t[j].outs.length:Int)
    · rw [if_pos c,decide_eq_false (by omega)];rfl
    · rw [if_neg c,decide_eq_true (by omega)];have hr:=(ht.2 _ (List.getElem_mem h)).1
      rw [zmd (L:=ze3 k t (j:Int)) t[j].outs false (fun l=>decide (l.length≤10)) hr (fun m i hi=>by
        rw [ze3,zcx h,if_pos (zah hi),if_pos ⟨by omega,zah hi⟩,zcx hi];by_cases d:10<(t[j].outs[i].length:Int)
        · rw [if_pos d,decide_eq_false (by omega)];rfl
        · rw [if_neg d,decide_eq_true (by omega)];rfl) (fun m=>by rw [ze3,zcx h,if_neg (by omega)]) (Nat.lt_of_lt_of_le hr hk),Option.bind_some]
      simp only [Bool.true_and]
      cases t[j].outs.all _<;>rfl) (fun m=>by rw [ze4,if_neg (by omega)]) (Nat.lt_of_lt_of_le ht.1 hk),Option.bind_some]
  cases t.all _<;>rfl
end
section
open Go Go.RowKit
/-! links that are up -/
theorem yk0 (l:List Int) (v:Int):(l.any fun x=>decide (v=x))=decide (v∈l):=by
  rw [Bool.eq_iff_iff];simp only [List.any_eq_true,decide_eq_true_eq];constructor
  · rintro ⟨x,hx,rfl⟩;exact hx
  · intro h;exact ⟨v,h,rfl⟩
theorem zyw {k:Nat} (l:List Int) (v:Int) (hl:l.length<big) (hk:l.length<k):zcn k l v=some (decide (v∈l)):=by
  unfold zcn zff
  rw [zvs (L:=za2 k l v) l (fun x=>decide (v=x)) hl (fun m j h=>by
    rw [za2,if_pos (zah h),if_pos ⟨by omega,zah h⟩,zcx h]
    simp only [decide_eq_true_eq]) (fun m=>by rw [za2,if_neg (by omega)]) hk,Option.bind_some,ye8,yk0]
theorem z6g {α:Type} [Inhabited α] (q:α→Bool):∀ (l:List α),(l.find? q=none∧idxB q l=-1)∨∃ i:Nat,∃ h:i<l.length,idxB q l=(i:Int)∧l.find? q=some l[i]
  |[]=>.inl ⟨rfl,rfl⟩
  |x :: l=>by
    unfold idxB;rw [List.findIdx?_cons,List.find?_cons]
    cases hq:q x with
    |true=>exact .inr ⟨0,by simp,rfl,rfl⟩
    |false =>
      rcases z6g q l with ⟨h1,h2⟩|⟨i,hi,h1,h2⟩
      · left;unfold idxB at h2;refine ⟨h1,?_⟩
        cases hf:l.findIdx? q with
        |none=>rfl
        |some j=>rw [hf] at h2;simp at h2;try omega
      · right;unfold idxB at h1;refine ⟨i+1,by simpa using hi,?_,by simpa using h2⟩
        cases hf:l.findIdx? q with
        |none=>rw [hf] at h1;simp at h1;try omega
        |some j=>rw [hf] at h1;simp at h1 ⊢;omega
structure CanSend (n:Net) (r:Rule):Prop where
  len:r.outs.length≤16
  alts:∀ l,l∈r.outs→l.length≤8
  link:∀ l,l∈r.outs→∀ a,a∈l→a.link<(n.links.length:Int)
  mod:∀ l,l∈r.outs→∀ a,a∈l→zag a.mod=true
/-! looking up -/
def zlo (t:List Rule) (h:Ar 10):Int:=idxB (fun r=>zam r.mat h) t
theorem znf {k:Nat} (l:List Rule) (f:Rule→Option Bool) (q:Rule→Bool) (hf:∀ x,x∈l→f x=some (q x)) (hl:l.length<big) (hk:l.length<k):zb8 k l f=some (idxB q l):=by
  unfold zb8;exact zvs l q hl (fun m j h=>by rw [zay,if_pos (zah h),if_pos ⟨by omega,zah h⟩,zcx h,hf _ (List.getElem_mem h),Option.bind_some]) (fun m=>by rw [zay,if_neg (by omega)]) hk
theorem zps {k:Nat} (t:List Rule) (h:Ar 10) (hp:∀ r,r∈t→zag r.mat=true) (hh:zac h=true) (hl:t.length<big) (hk:big≤k):zcr k t h=some (zlo t h):=by
  unfold zcr;rw [znf t _ (fun r=>zam r.mat h) (fun r hr=>by unfold ze2;rw [z8j (hp r hr) hh (by simp only [big] at hk;omega)];rfl) hl (Nat.lt_of_lt_of_le hl hk)];rfl
end
section
open Go Go.RowKit
end
end Go.Proofs.YtjgbkegkcbcjaaaGreat
