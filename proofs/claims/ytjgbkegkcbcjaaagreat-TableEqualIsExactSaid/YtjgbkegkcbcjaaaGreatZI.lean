/- Part 9 of the proof of TableEqualIsExact (several texts in one; no further condition). -/
import Derived.Test.YtjgbkegkcbcjaaaGreatZH
import Derived.Test.YtjgbkegkcbcjaaaGreatZF
set_option linter.unusedSimpArgs false
set_option linter.unusedVariables false
set_option linter.unusedSectionVars false
namespace Go.Proofs.YtjgbkegkcbcjaaaGreat
section
open Go Go.RowKit
def ltH (a b:Ar 10):Prop:=∃ i,i<160∧(∀ j,j<i→hbit a j=hbit b j)∧hbit a i=false∧hbit b i=true
structure Out (p:Pat) (l:List Pat) (h:Ar 10):Prop where
  right:zab h=true
  into:zaq p h=true
  no:∀ q,q∈l→zaq q h=false
structure zub (p:Pat) (l:List Pat) (h:Ar 10):Prop where
  out:Out p l h
  least:∀ h',Out p l h'→¬ ltH h' h
def Res (p:Pat) (l:List Pat) (r:Ar 10×Bool):Prop:=(r.2=true∧zub p l r.1)∨(r=(zA 10,false)∧∀ h,¬ Out p l h)
theorem zrg {a b:Ar 10} (ha:zab a=true) (hb:zab b=true):a=b∨ltH a b∨ltH b a:=by
  by_cases h:∃ i,i<160∧hbit a i≠hbit b i
  · right
    have key:∀ n,(∃ i,i<n∧hbit a i≠hbit b i)→∃ i,i<n∧(∀ j,j<i→hbit a j=hbit b j)∧hbit a i≠hbit b i:=by
      intro n
      induction n with
      |zero=>rintro ⟨i,hi,_⟩;omega
      |succ n ih =>
        rintro ⟨i,hi,hd⟩;by_cases h2:∃ i,i<n∧hbit a i≠hbit b i
        · obtain ⟨j,h3,h4,h5⟩:=ih h2;exact ⟨j,by omega,h4,h5⟩
        · refine ⟨i,hi,fun j hj=>?_,hd⟩;by_cases e:hbit a j=hbit b j
          · exact e
          · exact absurd ⟨j,by omega,e⟩ h2
    obtain ⟨i,h1,h2,h3⟩:=key 160 h
    cases e1:hbit a i with
    |false =>
      cases e2:hbit b i with
      |false=>rw [e1,e2] at h3;exact absurd rfl h3
      |true=>exact .inl ⟨i,h1,h2,e1,e2⟩
    |true =>
      cases e2:hbit b i with
      |true=>rw [e1,e2] at h3;exact absurd rfl h3
      |false=>exact .inr ⟨i,h1,fun j hj=>(h2 j hj).symm,e2,e1⟩
  · left
    exact zrm ha hb fun i hi=>by
      by_cases e:hbit a i=hbit b i
      · exact e
      · exact absurd ⟨i,hi,e⟩ h
theorem zub.uniq {p:Pat} {l:List Pat} {a b:Ar 10} (ha:zub p l a) (hb:zub p l b):a=b:=by
  rcases zrg ha.out.right hb.out.right with h|h|h
  · exact h
  · exact absurd h (hb.least _ ha.out)
  · exact absurd h (ha.least _ hb.out)
theorem Res.uniq {p:Pat} {l:List Pat} {r s:Ar 10×Bool} (hr:Res p l r) (hs:Res p l s):r=s:=by
  obtain ⟨r1,r2⟩:=r;obtain ⟨s1,s2⟩:=s;rcases hr with ⟨h1,h2⟩|⟨h1,h2⟩
  · rcases hs with ⟨h3,h4⟩|⟨h3,h4⟩
    · simp only at h1 h2 h3 h4;rw [h1,h3,h2.uniq h4]
    · exact absurd h2.out (h4 _)
  · rcases hs with ⟨h3,h4⟩|⟨h3,h4⟩
    · exact absurd h4.out (h2 _)
    · rw [h1,h3]
theorem zx8 {p q:Pat} {h:Ar 10} (hp:zaq p h=true) (hq:zaq q h=true):zdk p q=true :=
  zh1.2 fun i hi h1 h2=>by rw [zar.1 hp i hi h1,zar.1 hq i hi h2]
theorem zi7 {p r:Pat} {i:Nat} {b:Bool} {h:Ar 10} (hi:i<160) (hpi:hbit p.mask i=false) (hf:zw3 p i b r):zaq r h=true↔zaq p h=true∧hbit h i=b:=by
  rw [zar,zar];constructor
  · intro hm;refine ⟨fun j hj h1=>?_,?_⟩
    · have hne:j≠i:=by intro e;rw [e,hpi] at h1;cases h1
      have:=hm j hj (by rw [hf.hm j hj,h1];simp);rw [hf.hb j hj,if_neg hne] at this;exact this
    · have:=hm i hi (by rw [hf.hm i hi];simp);rw [hf.hb i hi,if_pos rfl] at this;exact this.symm
  · rintro ⟨hm,hb⟩ j hj h1;rw [hf.hb j hj];by_cases e:j=i
    · rw [if_pos e,e,hb]
    · rw [if_neg e];rw [hf.hm j hj,decide_eq_false e,Bool.false_or] at h1;exact hm j hj h1
theorem z1b {p r:Pat} {i:Nat} {b:Bool} (hp:zag p=true) (hf:zw3 p i b r):zag r=true:=by
  refine zai.2 ⟨hf.mask,hf.bits,fun j hj h1=>?_⟩;rw [hf.hm j hj];by_cases e:j=i
  · simp [e]
  · rw [hf.hb j hj,if_neg e] at h1;rw [(zai.1 hp).2.2 j hj h1];simp
theorem zv3 {p:Pat} {l:List Pat} (hp:zag p=true) (hn:∀ q,q∈l→zdk p q=false):zub p l p.bits:=by
  obtain ⟨pm,pb,pw⟩:=zai.1 hp;have hself:zaq p p.bits=true:=zar.2 fun i _ _=>rfl;refine ⟨⟨pb,hself,fun q hq=>?_⟩,fun h' ho=>?_⟩
  · cases hm:zaq q p.bits with
    |false=>rfl
    |true=>have:=zx8 hself hm;rw [hn q hq] at this;cases this
  · rintro ⟨i,hi,_,h1,h2⟩;have:=zar.1 ho.into i hi (pw i hi h2);rw [h1,h2] at this;cases this
theorem Out.near {p:Pat} {l:List Pat} {h:Ar 10}:Out p l h↔Out p (l.filter (zdk p)) h:=by
  constructor
  · exact fun ⟨a,b,c⟩=>⟨a,b,fun q hq=>c q (List.mem_filter.1 hq).1⟩
  · refine fun ⟨a,b,c⟩=>⟨a,b,fun q hq=>?_⟩
    cases hm:zaq q h with
    |false=>rfl
    |true =>
      have:=c q (List.mem_filter.2 ⟨hq,zx8 b hm⟩);rw [hm] at this;cases this
theorem Res.join {p p0 p1:Pat} {l:List Pat} {i:Nat} {r0 r1:Ar 10×Bool} (hi:i<160) (hpi:hbit p.mask i=false) (h0:zw3 p i false p0) (h1:zw3 p i true p1)
    (ho:∀ q,q∈l→∀ j,j<i→zhf q p j=false) (k0:Res p0 l r0) (k1:r0.2=false→Res p1 l r1):Res p l (if r0.2=true then (r0.1,true) else (r1.1,r1.2)):=by
  rcases k0 with ⟨a,b⟩|⟨a,b⟩
  · rw [if_pos a];refine .inl ⟨rfl,⟨⟨b.out.right,((zi7 hi hpi h0).1 b.out.into).1,b.out.no⟩,fun h' ho'=>?_⟩⟩;obtain ⟨bm,bi⟩:=(zi7 hi hpi h0).1 b.out.into;rintro ⟨j,hj,e1,e2,e3⟩
    cases hb:hbit h' i with
    |false=>exact b.least h' ⟨ho'.right,(zi7 hi hpi h0).2 ⟨ho'.into,hb⟩,ho'.no⟩ ⟨j,hj,e1,e2,e3⟩
    |true =>
      by_cases c1:j=i
      · subst c1;rw [bi] at e3;cases e3
      · by_cases c2:i<j
        · have:=e1 i c2;rw [hb,bi] at this;cases this
        · have hji:j<i:=by omega
          have hpj:hbit p.mask j=false:=by
            cases hm:hbit p.mask j with
            |false=>rfl
            |true =>
              have x1:=zar.1 ho'.into j hj hm;have x2:=zar.1 bm j hj hm;rw [x1,e2] at x2;rw [e3] at x2;cases x2
          obtain ⟨c3,c4⟩:=yio b.out.right hj;generalize r0.1.set ((j / 16:Nat):Int) _=h2 at c3 c4;refine b.least h2 ⟨c3,?_,fun q hq=>?_⟩ ⟨j,hj,fun s hs=>?_,?_,e3⟩
          · refine (zi7 hi hpi h0).2 ⟨zar.2 fun s hs hm=>?_,?_⟩
            · have hne:s≠j:=by intro e;rw [e,hpj] at hm;cases hm
              rw [c4 s hs,decide_eq_false hne,Bool.not_false,Bool.true_and];exact zar.1 bm s hs hm
            · rw [c4 i hi,decide_eq_false (by omega),Bool.not_false,Bool.true_and];exact bi
          · have hqj:hbit q.mask j=false:=by
              have:=ho q hq j hji;unfold zhf at this;rw [hpj] at this;simpa using this
            cases hm:zaq q h2 with
            |false=>rfl
            |true =>
              have:zaq q r0.1=true:=zar.2 fun s hs hms=>by
                have hne:s≠j:=by intro e;rw [e,hqj] at hms;cases hms
                have x:=zar.1 hm s hs hms;rw [c4 s hs,decide_eq_false hne,Bool.not_false,Bool.true_and] at x;exact x
              rw [b.out.no q hq] at this;cases this
          · rw [c4 s (by omega),decide_eq_false (by omega),Bool.not_false,Bool.true_and]
          · rw [c4 j hj];simp
  · subst a;rw [if_neg (by simp)];have k:=k1 rfl
    have split:∀ h,Out p l h→Out p1 l h:=fun h ho'=>by
      cases hb:hbit h i with
      |false=>exact absurd ⟨ho'.right,(zi7 hi hpi h0).2 ⟨ho'.into,hb⟩,ho'.no⟩ (b h)
      |true=>exact ⟨ho'.right,(zi7 hi hpi h1).2 ⟨ho'.into,hb⟩,ho'.no⟩
    rcases k with ⟨c,d⟩|⟨c,d⟩
    · exact .inl ⟨c,⟨⟨d.out.right,((zi7 hi hpi h1).1 d.out.into).1,d.out.no⟩,fun h' ho'=>d.least h' (split h' ho')⟩⟩
    · exact .inr ⟨by rw [c],fun h ho'=>d h (split h ho')⟩
end
section
open Go Go.RowKit
set_option maxRecDepth 100000
def zdv (k:Nat) (t:List Rule) (k_:Int):Nat→Int→(List Pat)→Nat→Option (List Pat×Nat)
 |0,_,_,_=>none
 |m+1,i,l,n=>(if i<k_ then (if (0:Int)≤i∧i<(t.length:Int) then (if (n+1)*161≤1000000000 then zdv k t k_ m (IntKind.i64.wrap (i+1)) (l++[(gx t i).mat]) (n+1) else none) else none) else some (l,n))
def zhk (k:Nat) (t:List Rule) (k_:Int):Option (List Pat):=((zdv k t k_ k 0 [] 0:Option (List Pat×Nat)).bind fun s_=>(if s_.1.length=s_.2 then some s_.1 else none))
set_option maxHeartbeats 8000000 in
theorem zjq (ax:Axs) (hx:zbx ax) (k:Nat) (t:List Rule) (k_:Int) (v:List Pat) (H:zhk k t k_=some v):Pure Tryz.prog (EE ax) [] 70 [zao t,.int .i64 k_] (lPat v):=by
 rw [zhk] at H;refine en [.tmp 4] 21 [0,1] (hx.no _ (by decide)) (fn70 ax) ?_;intro h hh;repeat apply TW.seq
 refine rk [0,1] [] hh ?_;clear hh h;intro h hh;repeat apply TW.seq
 refine rk [0,1,5] [] hh ?_;clear hh h;intro h hh;refine vk 5 20 [0,1,5] hh ?_;clear hh h;intro h hh;repeat apply TW.seq
 refine rk [0,1,5,6] [] hh ?_;clear hh h;intro h hh;obtain ⟨s_,H1,H⟩:=zad H;repeat apply TW.seq
 refine cu [5] 1 (fun h bs=>(h 5=.arr 0 20 0 s_.2 s_.2 (s_.2*20))∧bs=[.cells false (s_.2*20) (vecC ePat s_.1)]) ?_ ?_
 ·skip;repeat apply TW.seq
  apply TW.block;repeat apply TW.seq
  refine TW.loopT [0,1,5,6] (fun m h bs=>∃ (i:Int) (l:List Pat) (n:Nat),zdv k t k_ m i l n=some s_∧(h 0=zao t∧h 1=.int .i64 k_∧h 5=.arr 0 20 0 n n (n*20)∧h 6=.int .i64 i)∧bs=[.cells false (n*20) (vecC ePat l)]) ?_ k _ _ ?_;rotate_left
  ·exact ⟨0,[],0,H1,kq hh,rfl⟩
  clear hh h H1;rintro m h bs ⟨i,l,n,H1,hh,rfl⟩;rcases m with _|m
  ·rw [zdv] at H1;cases H1
  rw [zdv] at H1;repeat apply TW.seq
  refine rk [0,1,5,6,9] [] hh ?_;clear hh h;intro h hh;rcases isp H1 with ⟨c1,H1⟩|⟨c1,H1⟩;rotate_left
  ·skip;repeat apply TW.seq
   refine cf (f2 hh (decide_eq_false c1)) ?_;refine xk ?_;cases H1;exact ce hh ⟨kq hh,rfl⟩
  repeat apply TW.seq
  refine ct (f2 hh (decide_eq_true c1)) ?_;repeat apply TW.seq
  refine sk ?_;repeat apply TW.seq
  apply TW.block;obtain ⟨g2,H1⟩:=isg H1;obtain ⟨g3,H1⟩:=isg H1;repeat apply TW.seq
  refine rg [] [] [.cells false ((n+1)*20) (vecC ePat (l++[(gx t i).mat]))] (fun h=>h 0=zao t∧h 1=.int .i64 k_∧h 5=.arr 0 20 0 (n+1) (n+1) ((n+1)*20)∧h 6=.int .i64 i) (f3 hh (zal g2) (f3 ((show vecC ePat [(gx t i).mat]=((((gx t i).mat).mask).l.map (T.int .i64)++((((gx t i).mat).bits).l.map (T.int .i64))) from zgu.trans rfl)) (zoz ax) (zuh ax))) trivial ?_;clear hh h;intro h hh;repeat apply TW.seq
  refine rk [0,1,5,6] [] hh ?_;clear hh h;intro h hh;exact rd m hh ⟨(IntKind.i64.wrap (i+1)),(l++[(gx t i).mat]),(n+1),H1,kq hh,rfl⟩
 clear hh h;rintro h bs ⟨hh,rfl⟩;repeat apply TW.seq
 refine rk [4] [] hh ?_;clear hh h;intro h hh;obtain ⟨g4,H⟩:=isg H;refine TW.freeze 4 (b:=0) (e:=20) (off:=0) (len:=s_.2) (cap:=s_.2) (M:=(s_.2*20)) (s_.1.map ePat) (kq hh) (by rfl) (by omega) (by omega) (by rw [List.drop_zero];exact zf7 (fun x=>zbb x) g4) (fun t ht=>by obtain ⟨x,_,rfl⟩:=List.mem_map.1 ht;first|rfl|exact zi8 _|exact zbb _|exact zg7 _|exact zba _ | (rw [List.length_map];rfl)) (by rw [List.length_map];exact g4) (by omega) ?_;rw [zhy _ _ _ (by simp only [lzA]<;>omega)];simp only [scA];refine gk [4] hh ?_;clear hh h;intro h hh;cases H;exact rt hh
def zfh (k:Nat) (q:Pat):Nat→Int→(Ar 10)→(Ar 10)→Option ((Pat×Bool) ⊕ (Ar 10×Ar 10))
 |0,_,_,_=>none
 |m+1,i,x,x2=>(if i<160 then ((zd6 k q.mask i).bind fun rBit=>(if rBit=0 then zfh k q m (IntKind.i64.wrap (i+1)) x x2 else ((((zd6 k x i).bind fun rBit2=>(if rBit2=1 then ((zd6 k x2 i).bind fun rBit3=>((zd6 k q.bits i).bind fun rBit4=>some (decide (rBit3≠rBit4)))) else some false)):Option Bool).bind fun s_2=>(if s_2=true then some (.inl ((⟨(zA 10),(zA 10)⟩:Pat),false)) else ((zgh k x i 1).bind fun rset=>((zd6 k q.bits i).bind fun rBit5=>((zgh k x2 i rBit5).bind fun rset2=>zfh k q m (IntKind.i64.wrap (i+1)) rset rset2))))))) else some (.inr (x,x2)))
def zmm (k:Nat) (p:Pat) (q:Pat):Option (Pat×Bool):=((zfh k q k 0 p.mask p.bits:Option ((Pat×Bool) ⊕ (Ar 10×Ar 10))).bind fun o=>Sum.elim (fun r=>some r) (fun s_=>some ((⟨s_.1,s_.2⟩:Pat),true)) o)
set_option maxHeartbeats 8000000 in
theorem zsa (ax:Axs) (hx:zbx ax) (k:Nat) (p:Pat) (q:Pat) (v:Pat×Bool) (H:zmm k p q=some v):Pure Tryz.prog (EE ax) [] 77 [ePat p,ePat q] (tupT [ePat v.1,.bool v.2]):=by
 rw [zmm] at H;refine enN [.cell 4 41,.tmp 5] 48 [0,1] (hx.no _ (by decide)) (fn77 ax) ?_;intro h hh;repeat apply TW.seq
 refine rk [2,3,4] [] hh ?_;clear hh h;intro h hh;repeat apply TW.seq
 refine rk [2,3,4,6] [] hh ?_;clear hh h;intro h hh;obtain ⟨o,H1,H⟩:=zad H;repeat apply TW.seq
 refine cu [2,4] 3 (fun h bs=>∃ s_:Ar 10×Ar 10,o=.inr s_∧(h 2=.ptr 0 0 20∧h 4=.ptr 2 0 20)∧bs=[.cells true 20 (s_.1.l.map (T.int .i64)++(s_.2.l.map (T.int .i64))),.cells true 20 (q.mask.l.map (T.int .i64)++(q.bits.l.map (T.int .i64))),.cells true 20 ((zA 10).l.map (T.int .i64)++((zA 10).l.map (T.int .i64)))]) ?_ ?_
 ·skip;repeat apply TW.seq
  apply TW.block;repeat apply TW.seq
  refine TW.loopT [2,3,4,6] (fun m h bs=>∃ (i:Int) (x:Ar 10) (x2:Ar 10),zfh k q m i x x2=some o∧(h 2=.ptr 0 0 20∧h 3=.ptr 1 0 20∧h 4=.ptr 2 0 20∧h 6=.int .i64 i)∧bs=[.cells true 20 (x.l.map (T.int .i64)++(x2.l.map (T.int .i64))),.cells true 20 (q.mask.l.map (T.int .i64)++(q.bits.l.map (T.int .i64))),.cells true 20 ((zA 10).l.map (T.int .i64)++((zA 10).l.map (T.int .i64)))]) ?_ k _ _ ?_;rotate_left
  ·exact ⟨0,p.mask,p.bits,H1,kq hh,rfl⟩
  clear hh h H1;rintro m h bs ⟨i,x,x2,H1,hh,rfl⟩;rcases m with _|m
  ·rw [zfh] at H1;cases H1
  rw [zfh] at H1;repeat apply TW.seq
  refine rk [2,3,4,6,8] [] hh ?_;clear hh h;intro h hh;rcases isp H1 with ⟨c1,H1⟩|⟨c1,H1⟩;rotate_left
  ·skip;repeat apply TW.seq
   refine cf (f2 hh (decide_eq_false c1)) ?_;refine xk ?_;cases H1;exact ce hh ⟨_,rfl,kq hh,rfl⟩
  repeat apply TW.seq
  refine ct (f2 hh (decide_eq_true c1)) ?_;repeat apply TW.seq
  refine sk ?_;repeat apply TW.seq
  apply TW.block;obtain ⟨rBit,e2,H1⟩:=zad H1;repeat apply TW.seq
  refine rkc [2,3,4,6,15] [] [(.int .i64 rBit,stL [.cells true 20 (x.l.map (T.int .i64)++(x2.l.map (T.int .i64))),.cells true 20 (q.mask.l.map (T.int .i64)++(q.bits.l.map (T.int .i64))),.cells true 20 ((zA 10).l.map (T.int .i64)++((zA 10).l.map (T.int .i64)))])] hh ?_ ?_
  ·exact ⟨zaj.call ((zb1 ax hx k q.mask i rBit e2 ).call _),trivial⟩
  clear hh h;intro h hh;rcases isp H1 with ⟨c3,H1⟩|⟨c3,H1⟩;rotate_left
  ·skip;repeat apply TW.seq
   refine cf (f2 hh (decide_eq_false c3)) ?_;repeat apply TW.seq
   refine sk ?_;obtain ⟨s_2,H2,H1⟩:=zad H1;repeat apply TW.seq
   refine cu [2,3,4,6,31] 3 (fun h bs=>(h 2=.ptr 0 0 20∧h 3=.ptr 1 0 20∧h 4=.ptr 2 0 20∧h 6=.int .i64 i∧h 31=.bool s_2)∧bs=[.cells true 20 (x.l.map (T.int .i64)++(x2.l.map (T.int .i64))),.cells true 20 (q.mask.l.map (T.int .i64)++(q.bits.l.map (T.int .i64))),.cells true 20 ((zA 10).l.map (T.int .i64)++((zA 10).l.map (T.int .i64)))]) ?_ ?_
   ·skip;obtain ⟨rBit2,e4,H2⟩:=zad H2;rcases isp H2 with ⟨c5,H2⟩|⟨c5,H2⟩;rotate_left
    ·skip;repeat apply TW.seq
     refine dk 12 [2,3,4,6,31] [.int .i64 rBit2] [] [] (f2 hh (decide_eq_false c5)) ?_ trivial ?_
     ·exact ⟨(zb1 ax hx k x i rBit2 e4 ).call _,trivial⟩
     clear hh h;intro h hh;cases H2;exact ce hh ⟨kq hh,rfl⟩
    obtain ⟨rBit3,e6,H2⟩:=zad H2;obtain ⟨rBit4,e7,H2⟩:=zad H2;repeat apply TW.seq
    refine dk 12 [2,3,4,6,31] [.int .i64 rBit2,.int .i64 rBit3] [] [(.int .i64 rBit4,stL [.cells true 20 (x.l.map (T.int .i64)++(x2.l.map (T.int .i64))),.cells true 20 (q.mask.l.map (T.int .i64)++(q.bits.l.map (T.int .i64))),.cells true 20 ((zA 10).l.map (T.int .i64)++((zA 10).l.map (T.int .i64)))])] (f2 hh (decide_eq_true c5)) ?_ ?_ ?_
    ·exact ⟨(zb1 ax hx k x i rBit2 e4 ).call _,(zb1 ax hx k x2 i rBit3 e6 ).call _,trivial⟩
    ·exact ⟨zaj.call ((zb1 ax hx k q.bits i rBit4 e7 ).call _),trivial⟩
    clear hh h;intro h hh;cases H2;exact ce hh ⟨kq hh,rfl⟩
   clear hh h;rintro h bs ⟨hh,rfl⟩;rcases isb H1 with ⟨c8,H1⟩|⟨c8,H1⟩;rotate_left
   ·skip;repeat apply TW.seq
    refine cf (f2 hh c8) ?_;repeat apply TW.seq
    refine sk ?_;obtain ⟨rset,e9,H1⟩:=zad H1;repeat apply TW.seq
    refine rkc [2,3,4,6] [] [(.agg (rset.l.map (T.int .i64)),stL [.cells true 20 (x.l.map (T.int .i64)++(x2.l.map (T.int .i64))),.cells true 20 (q.mask.l.map (T.int .i64)++(q.bits.l.map (T.int .i64))),.cells true 20 ((zA 10).l.map (T.int .i64)++((zA 10).l.map (T.int .i64)))])] (f2 hh c8) ?_ ?_
    ·exact ⟨zaj.call (Pure.clr (zhl ax hx k x i 1 rset e9 ) (by first|rfl|simp only [c8])),trivial⟩
    clear hh h;intro h hh;obtain ⟨rBit5,e10,H1⟩:=zad H1;obtain ⟨rset2,e11,H1⟩:=zad H1;repeat apply TW.seq
    refine dk 7 [2,3,4,6] [.int .i64 rBit5] [] [(.agg (rset2.l.map (T.int .i64)),stL [.cells true 20 (rset.l.map (T.int .i64)++(x2.l.map (T.int .i64))),.cells true 20 (q.mask.l.map (T.int .i64)++(q.bits.l.map (T.int .i64))),.cells true 20 ((zA 10).l.map (T.int .i64)++((zA 10).l.map (T.int .i64)))])] (f2 hh c8) ?_ ?_ ?_
    ·exact ⟨Pure.clr (zb1 ax hx k q.bits i rBit5 e10 ) (by first|rfl|simp only [c8]),trivial⟩
    ·exact ⟨zaj.call (Pure.clr (zhl ax hx k x2 i rBit5 rset2 e11 ) (by first|rfl|simp only [c8])),trivial⟩
    clear hh h;intro h hh;repeat apply TW.seq
    refine rk [2,3,4,6] [] (f2 hh c8) ?_;clear hh h;intro h hh;exact rd m hh ⟨(IntKind.i64.wrap (i+1)),rset,rset2,H1,kq hh,rfl⟩
   repeat apply TW.seq
   refine ct (f2 hh c8) ?_;repeat apply TW.seq
   refine rk [4,5] [] (f2 hh c8) ?_;clear hh h;intro h hh;cases H1;obtain rfl:=sinl H;exact rtc hh
  repeat apply TW.seq
  refine ct (f2 hh (decide_eq_true c3)) ?_;refine xk ?_;repeat apply TW.seq
  refine rk [2,3,4,6] [] hh ?_;clear hh h;intro h hh;exact rd m hh ⟨(IntKind.i64.wrap (i+1)),x,x2,H1,kq hh,rfl⟩
 clear hh h;rintro h bs ⟨s_,rfl,hh,rfl⟩;replace H:=sinr H;repeat apply TW.seq
 refine rk [4,5] [] hh ?_;clear hh h;intro h hh;cases H;exact rtc hh
def zhz (k:Nat) (p:Pat) (q:Pat):Option Bool:=((zmm k p q).bind fun rAnd=>some rAnd.2)
set_option maxHeartbeats 8000000 in
theorem zr9 (ax:Axs) (hx:zbx ax) (k:Nat) (p:Pat) (q:Pat) (v:Bool) (H:zhz k p q=some v):Pure Tryz.prog (EE ax) [] 39 [ePat p,ePat q] (.bool v):=by
 rw [zhz] at H;refine en [.tmp 4] 14 [0,1] (hx.no _ (by decide)) (fn39 ax) ?_;intro h hh;repeat apply TW.seq
 refine rk [2,3] [] hh ?_;clear hh h;intro h hh;obtain ⟨rAnd,e1,H⟩:=zad H;repeat apply TW.seq
 refine rkc [6] [] [(.tup [ePat rAnd.1,.bool rAnd.2],stL [.cells true 20 (p.mask.l.map (T.int .i64)++(p.bits.l.map (T.int .i64))),.cells true 20 (q.mask.l.map (T.int .i64)++(q.bits.l.map (T.int .i64)))])] hh ?_ ?_
 ·exact ⟨zaj.call ((zsa ax hx k p q rAnd e1 ).call _),trivial⟩
 clear hh h;intro h hh;repeat apply TW.seq
 refine rk [4] [] hh ?_;clear hh h;intro h hh;cases H;exact rt hh
def zdq (k:Nat) (q:Pat):Nat→Int→(Ar 10)→(Ar 10)→(List Pat)→Nat→Option (Ar 10×Ar 10×List Pat×Nat)
 |0,_,_,_,_,_=>none
 |m+1,i,x,x2,l,n=>(if i<160 then ((((zd6 k q.mask i).bind fun rBit=>(if rBit=0 then some true else ((zd6 k x i).bind fun rBit2=>some (decide (rBit2=1))))):Option Bool).bind fun s_2=>(if s_2=true then zdq k q m (IntKind.i64.wrap (i+1)) x x2 l n else ((zd6 k q.bits i).bind fun rBit3=>((zgh k x i 1).bind fun rset=>((zgh k x2 i (IntKind.i64.wrap (1 - rBit3))).bind fun rset2=>(if (n+1)*161≤1000000000 then ((zgh k rset2 i rBit3).bind fun rset3=>zdq k q m (IntKind.i64.wrap (i+1)) rset rset3 (l++[(⟨rset,rset2⟩:Pat)]) (n+1)) else none)))))) else some (x,x2,l,n))
def zj6 (k:Nat) (p:Pat) (q:Pat):Option (List Pat):=((zhz k p q).bind fun rOverlap=>(if rOverlap=true then ((zdq k q k 0 p.mask p.bits [] 0:Option (Ar 10×Ar 10×List Pat×Nat)).bind fun s_=>(if s_.2.2.1.length=s_.2.2.2 then some s_.2.2.1 else none)) else some [p]))
set_option maxHeartbeats 8000000 in
theorem zn7 (ax:Axs) (hx:zbx ax) (k:Nat) (p:Pat) (q:Pat) (v:List Pat) (H:zj6 k p q=some v):Pure Tryz.prog (EE ax) [] 143 [ePat p,ePat q] (lPat v):=by
 rw [zj6] at H;refine en [.tmp 4] 59 [0,1] (hx.no _ (by decide)) (fn143 ax) ?_;intro h hh;repeat apply TW.seq
 refine rk [2,3] [] hh ?_;clear hh h;intro h hh;obtain ⟨rOverlap,e1,H⟩:=zad H;repeat apply TW.seq
 refine rkc [2,3,5] [] [(.bool rOverlap,stL [.cells true 20 (p.mask.l.map (T.int .i64)++(p.bits.l.map (T.int .i64))),.cells true 20 (q.mask.l.map (T.int .i64)++(q.bits.l.map (T.int .i64)))])] hh ?_ ?_
 ·exact ⟨zaj.call ((zr9 ax hx k p q rOverlap e1 ).call _),trivial⟩
 clear hh h;intro h hh;repeat apply TW.seq
 refine rk [2,3,13] [] hh ?_;clear hh h;intro h hh;rcases isb H with ⟨c2,H⟩|⟨c2,H⟩;rotate_left
 ·skip;repeat apply TW.seq
  refine ct (f2 hh c2) ?_;repeat apply TW.seq
  refine rk [4] [] (f3 hh c2 (zoz ax)) ?_;clear hh h;intro h hh;cases H;exact rt hh
 repeat apply TW.seq
 refine cf (f2 hh c2) ?_;repeat apply TW.seq
 refine sk ?_;repeat apply TW.seq
 refine rk [2,3,6] [] (f2 hh c2) ?_;clear hh h;intro h hh;refine vk 6 20 [2,3,6] hh ?_;clear hh h;intro h hh;repeat apply TW.seq
 refine rk [2,3,6,7] [] (f2 hh c2) ?_;clear hh h;intro h hh;obtain ⟨s_,H1,H⟩:=zad H;repeat apply TW.seq
 refine cu [6] 3 (fun h bs=>(h 6=.arr 2 20 0 s_.2.2.2 s_.2.2.2 (s_.2.2.2*20))∧bs=[.cells true 20 (s_.1.l.map (T.int .i64)++(s_.2.1.l.map (T.int .i64))),.cells true 20 (q.mask.l.map (T.int .i64)++(q.bits.l.map (T.int .i64))),.cells false (s_.2.2.2*20) (vecC ePat s_.2.2.1)]) ?_ ?_
 ·skip;repeat apply TW.seq
  apply TW.block;repeat apply TW.seq
  refine TW.loopT [2,3,6,7] (fun m h bs=>∃ (i:Int) (x:Ar 10) (x2:Ar 10) (l:List Pat) (n:Nat),zdq k q m i x x2 l n=some s_∧(h 2=.ptr 0 0 20∧h 3=.ptr 1 0 20∧h 6=.arr 2 20 0 n n (n*20)∧h 7=.int .i64 i)∧bs=[.cells true 20 (x.l.map (T.int .i64)++(x2.l.map (T.int .i64))),.cells true 20 (q.mask.l.map (T.int .i64)++(q.bits.l.map (T.int .i64))),.cells false (n*20) (vecC ePat l)]) ?_ k _ _ ?_;rotate_left
  ·exact ⟨0,p.mask,p.bits,[],0,H1,kq hh,rfl⟩
  clear hh h H1;rintro m h bs ⟨i,x,x2,l,n,H1,hh,rfl⟩;rcases m with _|m
  ·rw [zdq] at H1;cases H1
  rw [zdq] at H1;repeat apply TW.seq
  refine rk [2,3,6,7,17] [] (f2 hh c2) ?_;clear hh h;intro h hh;rcases isp H1 with ⟨c3,H1⟩|⟨c3,H1⟩;rotate_left
  ·skip;repeat apply TW.seq
   refine cf (f2 hh (decide_eq_false c3)) ?_;refine xk ?_;cases H1;exact ce hh ⟨kq hh,rfl⟩
  repeat apply TW.seq
  refine ct (f2 hh (decide_eq_true c3)) ?_;repeat apply TW.seq
  refine sk ?_;repeat apply TW.seq
  apply TW.block;obtain ⟨s_2,H2,H1⟩:=zad H1;repeat apply TW.seq
  refine cu [2,3,6,7,31] 3 (fun h bs=>(h 2=.ptr 0 0 20∧h 3=.ptr 1 0 20∧h 6=.arr 2 20 0 n n (n*20)∧h 7=.int .i64 i∧h 31=.bool s_2)∧bs=[.cells true 20 (x.l.map (T.int .i64)++(x2.l.map (T.int .i64))),.cells true 20 (q.mask.l.map (T.int .i64)++(q.bits.l.map (T.int .i64))),.cells false (n*20) (vecC ePat l)]) ?_ ?_
  ·skip;obtain ⟨rBit,e4,H2⟩:=zad H2;rcases isp H2 with ⟨c5,H2⟩|⟨c5,H2⟩;rotate_left
   ·skip;obtain ⟨rBit2,e6,H2⟩:=zad H2;repeat apply TW.seq
    refine rkc [2,3,6,7,31] [] [(.int .i64 rBit,stL [.cells true 20 (x.l.map (T.int .i64)++(x2.l.map (T.int .i64))),.cells true 20 (q.mask.l.map (T.int .i64)++(q.bits.l.map (T.int .i64))),.cells false (n*20) (vecC ePat l)]),(.int .i64 rBit2,stL [.cells true 20 (x.l.map (T.int .i64)++(x2.l.map (T.int .i64))),.cells true 20 (q.mask.l.map (T.int .i64)++(q.bits.l.map (T.int .i64))),.cells false (n*20) (vecC ePat l)])] (f3 hh (decide_eq_false c5) c2) ?_ ?_
    ·exact ⟨zaj.call (Pure.clr (zb1 ax hx k q.mask i rBit e4 ) (by first|rfl|simp only [c2])),zaj.call (Pure.clr (zb1 ax hx k x i rBit2 e6 ) (by first|rfl|simp only [c2])),trivial⟩
    clear hh h;intro h hh;cases H2;exact ce hh ⟨kq hh,rfl⟩
   repeat apply TW.seq
   refine rkc [2,3,6,7,31] [] [(.int .i64 rBit,stL [.cells true 20 (x.l.map (T.int .i64)++(x2.l.map (T.int .i64))),.cells true 20 (q.mask.l.map (T.int .i64)++(q.bits.l.map (T.int .i64))),.cells false (n*20) (vecC ePat l)])] (f3 hh (decide_eq_true c5) c2) ?_ ?_
   ·exact ⟨zaj.call (Pure.clr (zb1 ax hx k q.mask i rBit e4 ) (by first|rfl|simp only [c2])),trivial⟩
   clear hh h;intro h hh;cases H2;exact ce hh ⟨kq hh,rfl⟩
  clear hh h;rintro h bs ⟨hh,rfl⟩;rcases isb H1 with ⟨c7,H1⟩|⟨c7,H1⟩;rotate_left
  ·skip;repeat apply TW.seq
   refine cf (f2 hh c7) ?_;repeat apply TW.seq
   refine sk ?_;obtain ⟨rBit3,e8,H1⟩:=zad H1;repeat apply TW.seq
   refine rkc [2,3,6,7,8] [] [(.int .i64 rBit3,stL [.cells true 20 (x.l.map (T.int .i64)++(x2.l.map (T.int .i64))),.cells true 20 (q.mask.l.map (T.int .i64)++(q.bits.l.map (T.int .i64))),.cells false (n*20) (vecC ePat l)])] (f3 hh c2 c7) ?_ ?_
   ·exact ⟨zaj.call (Pure.clr (zb1 ax hx k q.bits i rBit3 e8 ) (by first|rfl|simp only [c2,c7])),trivial⟩
   clear hh h;intro h hh;obtain ⟨rset,e9,H1⟩:=zad H1;repeat apply TW.seq
   refine rkc [2,3,6,7,8] [] [(.agg (rset.l.map (T.int .i64)),stL [.cells true 20 (x.l.map (T.int .i64)++(x2.l.map (T.int .i64))),.cells true 20 (q.mask.l.map (T.int .i64)++(q.bits.l.map (T.int .i64))),.cells false (n*20) (vecC ePat l)])] (f3 hh c2 c7) ?_ ?_
   ·exact ⟨zaj.call (Pure.clr (zhl ax hx k x i 1 rset e9 ) (by first|rfl|simp only [c2,c7])),trivial⟩
   clear hh h;intro h hh;obtain ⟨rset2,e10,H1⟩:=zad H1;repeat apply TW.seq
   refine rkc [2,3,6,7,8] [] [(.agg (rset2.l.map (T.int .i64)),stL [.cells true 20 (rset.l.map (T.int .i64)++(x2.l.map (T.int .i64))),.cells true 20 (q.mask.l.map (T.int .i64)++(q.bits.l.map (T.int .i64))),.cells false (n*20) (vecC ePat l)])] (f3 hh c2 c7) ?_ ?_
   ·exact ⟨zaj.call (Pure.clr (zhl ax hx k x2 i (IntKind.i64.wrap (1 - rBit3)) rset2 e10 ) (by first|rfl|simp only [c2,c7])),trivial⟩
   clear hh h;intro h hh;obtain ⟨g11,H1⟩:=isg H1;repeat apply TW.seq
   refine rg [] [] [.cells true 20 (rset.l.map (T.int .i64)++(rset2.l.map (T.int .i64))),.cells true 20 (q.mask.l.map (T.int .i64)++(q.bits.l.map (T.int .i64))),.cells false ((n+1)*20) (vecC ePat (l++[(⟨rset,rset2⟩:Pat)]))] (fun h=>h 2=.ptr 0 0 20∧h 3=.ptr 1 0 20∧h 6=.arr 2 20 0 (n+1) (n+1) ((n+1)*20)∧h 7=.int .i64 i∧h 8=.int .i64 rBit3) (f3 hh c2 (f3 c7 ((show vecC ePat [(⟨rset,rset2⟩:Pat)]=(((⟨rset,rset2⟩:Pat).mask).l.map (T.int .i64)++(((⟨rset,rset2⟩:Pat).bits).l.map (T.int .i64))) from zgu.trans rfl)) (f2 (zoz ax) (zuh ax)))) trivial ?_;clear hh h;intro h hh;obtain ⟨rset3,e12,H1⟩:=zad H1;repeat apply TW.seq
   refine rkc [2,3,6,7] [] [(.agg (rset3.l.map (T.int .i64)),stL [.cells true 20 (rset.l.map (T.int .i64)++(rset2.l.map (T.int .i64))),.cells true 20 (q.mask.l.map (T.int .i64)++(q.bits.l.map (T.int .i64))),.cells false ((n+1)*20) (vecC ePat (l++[(⟨rset,rset2⟩:Pat)]))])] (f3 hh c2 c7) ?_ ?_
   ·exact ⟨zaj.call (Pure.clr (zhl ax hx k rset2 i rBit3 rset3 e12 ) (by first|rfl|simp only [c2,c7])),trivial⟩
   clear hh h;intro h hh;repeat apply TW.seq
   refine rk [2,3,6,7] [] (f3 hh c2 c7) ?_;clear hh h;intro h hh;exact rd m hh ⟨(IntKind.i64.wrap (i+1)),rset,rset3,(l++[(⟨rset,rset2⟩:Pat)]),(n+1),H1,kq hh,rfl⟩
  repeat apply TW.seq
  refine ct (f2 hh c7) ?_;refine xk ?_;repeat apply TW.seq
  refine rk [2,3,6,7] [] (f3 hh c2 c7) ?_;clear hh h;intro h hh;exact rd m hh ⟨(IntKind.i64.wrap (i+1)),x,x2,l,n,H1,kq hh,rfl⟩
 clear hh h;rintro h bs ⟨hh,rfl⟩;repeat apply TW.seq
 refine rk [4] [] (f2 hh c2) ?_;clear hh h;intro h hh;obtain ⟨g13,H⟩:=isg H;refine TW.freeze 4 (b:=2) (e:=20) (off:=0) (len:=s_.2.2.2) (cap:=s_.2.2.2) (M:=(s_.2.2.2*20)) (s_.2.2.1.map ePat) (kq hh) (by rfl) (by omega) (by omega) (by rw [List.drop_zero];exact zf7 (fun x=>zbb x) g13) (fun t ht=>by obtain ⟨x,_,rfl⟩:=List.mem_map.1 ht;first|rfl|exact zi8 _|exact zbb _|exact zg7 _|exact zba _ | (rw [List.length_map];rfl)) (by rw [List.length_map];exact g13) (by omega) ?_;rw [zhy _ _ _ (by simp only [lzA]<;>omega)];simp only [scA];refine gk [4] hh ?_;clear hh h;intro h hh;cases H;exact rt hh
def zbu (k:Nat) (l:List Pat) (q:Pat):Nat→Int→(List Pat)→Nat→Option (List Pat×Nat)
 |0,_,_,_=>none
 |m+1,i,l2,n=>(if i<(l.length:Int) then (if (0:Int)≤i∧i<(l.length:Int) then ((zj6 k (gx l i) q).bind fun rMinus=>(if (n+rMinus.length)*161≤1000000000 then (if rMinus.length=0 then zbu k l q m (IntKind.i64.wrap (i+1)) l2 n else zbu k l q m (IntKind.i64.wrap (i+1)) (l2++rMinus) (n+rMinus.length)) else none)) else none) else some (l2,n))
def zf9 (k:Nat) (l:List Pat) (q:Pat):Option (List Pat):=((zbu k l q k 0 [] 0:Option (List Pat×Nat)).bind fun s_=>(if s_.1.length=s_.2 then some s_.1 else none))
set_option maxHeartbeats 8000000 in
theorem zpd (ax:Axs) (hx:zbx ax) (k:Nat) (l:List Pat) (q:Pat) (v:List Pat) (H:zf9 k l q=some v):Pure Tryz.prog (EE ax) [] 122 [lPat l,ePat q] (lPat v):=by
 rw [zf9] at H;refine en [.tmp 4] 22 [0,1] (hx.no _ (by decide)) (fn122 ax) ?_;intro h hh;repeat apply TW.seq
 refine rk [0,3] [] hh ?_;clear hh h;intro h hh;repeat apply TW.seq
 refine rk [0,3,5] [] hh ?_;clear hh h;intro h hh;refine vk 5 20 [0,3,5] hh ?_;clear hh h;intro h hh;repeat apply TW.seq
 refine rk [0,3,5,6] [] hh ?_;clear hh h;intro h hh;obtain ⟨s_,H1,H⟩:=zad H;repeat apply TW.seq
 refine cu [5] 2 (fun h bs=>(h 5=.arr 1 20 0 s_.2 s_.2 (s_.2*20))∧bs=[.cells true 20 (q.mask.l.map (T.int .i64)++(q.bits.l.map (T.int .i64))),.cells false (s_.2*20) (vecC ePat s_.1)]) ?_ ?_
 ·skip;repeat apply TW.seq
  apply TW.block;repeat apply TW.seq
  refine TW.loopT [0,3,5,6] (fun m h bs=>∃ (i:Int) (l2:List Pat) (n:Nat),zbu k l q m i l2 n=some s_∧(h 0=lPat l∧h 3=.ptr 0 0 20∧h 5=.arr 1 20 0 n n (n*20)∧h 6=.int .i64 i)∧bs=[.cells true 20 (q.mask.l.map (T.int .i64)++(q.bits.l.map (T.int .i64))),.cells false (n*20) (vecC ePat l2)]) ?_ k _ _ ?_;rotate_left
  ·exact ⟨0,[],0,H1,kq hh,rfl⟩
  clear hh h H1;rintro m h bs ⟨i,l2,n,H1,hh,rfl⟩;rcases m with _|m
  ·rw [zbu] at H1;cases H1
  rw [zbu] at H1;repeat apply TW.seq
  refine rk [0,3,5,6,10] [] (f2 hh (ziw ax)) ?_;clear hh h;intro h hh;rcases isp H1 with ⟨c1,H1⟩|⟨c1,H1⟩;rotate_left
  ·skip;repeat apply TW.seq
   refine cf (f2 hh (decide_eq_false c1)) ?_;refine xk ?_;cases H1;exact ce hh ⟨kq hh,rfl⟩
  repeat apply TW.seq
  refine ct (f2 hh (decide_eq_true c1)) ?_;repeat apply TW.seq
  refine sk ?_;repeat apply TW.seq
  apply TW.block;obtain ⟨g2,H1⟩:=isg H1;obtain ⟨rMinus,e3,H1⟩:=zad H1;obtain ⟨g4,H1⟩:=isg H1;rcases isp H1 with ⟨c5,H1⟩|⟨c5,H1⟩;rotate_left
  ·skip;repeat apply TW.seq
   refine dg 6 [] [] [(lPat rMinus,stL [.cells true 20 (q.mask.l.map (T.int .i64)++(q.bits.l.map (T.int .i64))),.cells false (n*20) (vecC ePat l2)])] [.cells true 20 (q.mask.l.map (T.int .i64)++(q.bits.l.map (T.int .i64))),.cells false ((n+rMinus.length)*20) (vecC ePat (l2++rMinus))] (fun h=>h 0=lPat l∧h 3=.ptr 0 0 20∧h 5=.arr 1 20 0 (n+rMinus.length) (n+rMinus.length) ((n+rMinus.length)*20)∧h 6=.int .i64 i) (f3 hh (zal g2) (f3 (zew ePat rMinus) (zc7 (f:=ePat) (e:=20) (fun x=>zbb x) rMinus) (f3 (zd1 (f:=ePat) (fun x=>zmq x) rMinus) (zoz ax) (f2 (zuh ax) (ziw ax))))) trivial ?_ ?_
   ·exact ⟨zaj.call ((zn7 ax hx k (gx l i) q rMinus e3 ).call _),trivial⟩
   clear hh h;intro h hh;repeat apply TW.seq
   refine rk [0,3,5,6] [] hh ?_;clear hh h;intro h hh;exact rd m hh ⟨(IntKind.i64.wrap (i+1)),(l2++rMinus),(n+rMinus.length),H1,kq hh,rfl⟩
  repeat apply TW.seq
  refine dg 6 [] [] [(lPat rMinus,stL [.cells true 20 (q.mask.l.map (T.int .i64)++(q.bits.l.map (T.int .i64))),.cells false (n*20) (vecC ePat l2)])] [.cells true 20 (q.mask.l.map (T.int .i64)++(q.bits.l.map (T.int .i64))),.cells false (n*20) (vecC ePat l2)] (fun h=>h 0=lPat l∧h 3=.ptr 0 0 20∧h 5=.arr 1 20 0 n n (n*20)∧h 6=.int .i64 i) (f3 hh c5 (f3 (zal g2) (zew ePat rMinus) (f3 (zc7 (f:=ePat) (e:=20) (fun x=>zbb x) rMinus) (zd1 (f:=ePat) (fun x=>zmq x) rMinus) (f3 (zoz ax) (zuh ax) (ziw ax))))) trivial ?_ ?_
  ·exact ⟨zaj.call ((zn7 ax hx k (gx l i) q rMinus e3 ).call _),trivial⟩
  clear hh h;intro h hh;repeat apply TW.seq
  refine rk [0,3,5,6] [] (f2 hh c5) ?_;clear hh h;intro h hh;exact rd m hh ⟨(IntKind.i64.wrap (i+1)),l2,n,H1,kq hh,rfl⟩
 clear hh h;rintro h bs ⟨hh,rfl⟩;repeat apply TW.seq
 refine rk [4] [] hh ?_;clear hh h;intro h hh;obtain ⟨g6,H⟩:=isg H;refine TW.freeze 4 (b:=1) (e:=20) (off:=0) (len:=s_.2) (cap:=s_.2) (M:=(s_.2*20)) (s_.1.map ePat) (kq hh) (by rfl) (by omega) (by omega) (by rw [List.drop_zero];exact zf7 (fun x=>zbb x) g6) (fun t ht=>by obtain ⟨x,_,rfl⟩:=List.mem_map.1 ht;first|rfl|exact zi8 _|exact zbb _|exact zg7 _|exact zba _ | (rw [List.length_map];rfl)) (by rw [List.length_map];exact g6) (by omega) ?_;rw [zhy _ _ _ (by simp only [lzA]<;>omega)];simp only [scA];refine gk [4] hh ?_;clear hh h;intro h hh;cases H;exact rt hh
def zbk (k:Nat) (a:Ar 10) (b:Ar 10):Nat→Int→Option (Int ⊕ Unit)
 |0,_=>none
 |m+1,i=>(if i<10 then (if (0:Int)≤i∧i<(10:Int) then (if (gx a.l i)<(gx b.l i) then some (.inl (-1)) else (if (gx b.l i)<(gx a.l i) then some (.inl 1) else zbk k a b m (IntKind.i64.wrap (i+1)))) else none) else some (.inr ()))
def zdc (k:Nat) (a:Ar 10) (b:Ar 10):Option Int:=((zbk k a b k 0:Option (Int ⊕ Unit)).bind fun o=>Sum.elim (fun r=>some r) (fun s_=>some 0) o)
set_option maxHeartbeats 8000000 in
theorem zid (ax:Axs) (hx:zbx ax) (k:Nat) (a:Ar 10) (b:Ar 10) (v:Int) (H:zdc k a b=some v):Pure Tryz.prog (EE ax) [] 78 [.agg (a.l.map (T.int .i64)),.agg (b.l.map (T.int .i64))] (.int .i64 v):=by
 rw [zdc] at H;refine en [.tmp 4] 24 [0,1] (hx.no _ (by decide)) (fn78 ax) ?_;intro h hh;repeat apply TW.seq
 refine rk [2,3] [] hh ?_;clear hh h;intro h hh;repeat apply TW.seq
 refine rk [2,3,5] [] hh ?_;clear hh h;intro h hh;obtain ⟨o,H1,H⟩:=zad H;repeat apply TW.seq
 refine cu [] 2 (fun h bs=>∃ s_:Unit,o=.inr s_∧(True)∧bs=[.cells true 10 (a.l.map (T.int .i64)),.cells true 10 (b.l.map (T.int .i64))]) ?_ ?_
 ·skip;repeat apply TW.seq
  apply TW.block;repeat apply TW.seq
  refine TW.loopT [2,3,5] (fun m h bs=>∃ (i:Int),zbk k a b m i=some o∧(h 2=.ptr 0 0 10∧h 3=.ptr 1 0 10∧h 5=.int .i64 i)∧bs=[.cells true 10 (a.l.map (T.int .i64)),.cells true 10 (b.l.map (T.int .i64))]) ?_ k _ _ ?_;rotate_left
  ·exact ⟨0,H1,kq hh,rfl⟩
  clear hh h H1;rintro m h bs ⟨i,H1,hh,rfl⟩;rcases m with _|m
  ·rw [zbk] at H1;cases H1
  rw [zbk] at H1;repeat apply TW.seq
  refine rk [2,3,5,7] [] hh ?_;clear hh h;intro h hh;rcases isp H1 with ⟨c1,H1⟩|⟨c1,H1⟩;rotate_left
  ·skip;repeat apply TW.seq
   refine cf (f2 hh (decide_eq_false c1)) ?_;refine xk ?_;cases H1;exact ce hh ⟨_,rfl,kq hh,rfl⟩
  repeat apply TW.seq
  refine ct (f2 hh (decide_eq_true c1)) ?_;repeat apply TW.seq
  refine sk ?_;repeat apply TW.seq
  apply TW.block;obtain ⟨g2,H1⟩:=isg H1;repeat apply TW.seq
  refine dk 6 [2,3,5,16] [] [] [] (f3 hh (arIx a g2) (arIx b g2)) trivial trivial ?_;clear hh h;intro h hh;rcases isp H1 with ⟨c3,H1⟩|⟨c3,H1⟩;rotate_left
  ·skip;repeat apply TW.seq
   refine cf (f2 hh (decide_eq_false c3)) ?_;repeat apply TW.seq
   refine sk ?_;repeat apply TW.seq
   refine dk 6 [2,3,5,23] [] [] [] (f3 hh (arIx a g2) (arIx b g2)) trivial trivial ?_;clear hh h;intro h hh;rcases isp H1 with ⟨c4,H1⟩|⟨c4,H1⟩;rotate_left
   ·skip;repeat apply TW.seq
    refine cf (f2 hh (decide_eq_false c4)) ?_;repeat apply TW.seq
    refine sk ?_;repeat apply TW.seq
    refine rk [2,3,5] [] hh ?_;clear hh h;intro h hh;exact rd m hh ⟨(IntKind.i64.wrap (i+1)),H1,kq hh,rfl⟩
   repeat apply TW.seq
   refine ct (f2 hh (decide_eq_true c4)) ?_;repeat apply TW.seq
   refine rk [4] [] hh ?_;clear hh h;intro h hh;cases H1;obtain rfl:=sinl H;exact rt hh
  repeat apply TW.seq
  refine ct (f2 hh (decide_eq_true c3)) ?_;repeat apply TW.seq
  refine rk [4] [] hh ?_;clear hh h;intro h hh;cases H1;obtain rfl:=sinl H;exact rt hh
 clear hh h;rintro h bs ⟨s_,rfl,hh,rfl⟩;replace H:=sinr H;repeat apply TW.seq
 refine rk [4] [] hh ?_;clear hh h;intro h hh;cases H;exact rt hh
def zcr (k:Nat) (l:List Pat):Nat→(List Pat)→Int→Option (List Pat)
 |0,_,_=>none
 |m+1,left,i=>(if i<(l.length:Int) then (if (0:Int)≤i∧i<(l.length:Int) then ((zf9 k left (gx l i)).bind fun rminusEach=>zcr k l m rminusEach (IntKind.i64.wrap (i+1))) else none) else some left)
def zb0 (k:Nat) (s_:List Pat):Nat→Int→(Ar 10)→Option (Ar 10)
 |0,_,_=>none
 |m+1,i2,x=>(if i2<(s_.length:Int) then (if (0:Int)≤i2∧i2<(s_.length:Int) then ((zdc k ((gx s_ i2).bits) x).bind fun rCompareHeads=>(if rCompareHeads<0 then zb0 k s_ m (IntKind.i64.wrap (i2+1)) ((gx s_ i2).bits) else zb0 k s_ m (IntKind.i64.wrap (i2+1)) x)) else none) else some x)
def zfg (k:Nat) (p:Pat) (l:List Pat):Option (Ar 10×Bool):=((zcr k l k [p] 0:Option (List Pat)).bind fun s_=>(if (s_.length:Int)=0 then some ((zA 10),false) else (if (0:Int)≤0∧0<(s_.length:Int) then ((zb0 k s_ k 1 ((gx s_ 0).bits):Option (Ar 10)).bind fun s_2=>some (s_2,true)) else none)))
set_option maxHeartbeats 8000000 in
theorem zlu (ax:Axs) (hx:zbx ax) (k:Nat) (p:Pat) (l:List Pat) (v:Ar 10×Bool) (H:zfg k p l=some v):Pure Tryz.prog (EE ax) [] 69 [ePat p,lPat l] (tupT [.agg (v.1.l.map (T.int .i64)),.bool v.2]):=by
 rw [zfg] at H;refine enN [.cell 4 39,.tmp 5] 52 [0,1] (hx.no _ (by decide)) (fn69 ax) ?_;intro h hh;repeat apply TW.seq
 refine rk [1,2,4] [] hh ?_;clear hh h;intro h hh;repeat apply TW.seq
 refine rk [1,4,6] [] (f2 hh (zoz ax)) ?_;clear hh h;intro h hh;repeat apply TW.seq
 refine rk [1,4,6,7] [] hh ?_;clear hh h;intro h hh;obtain ⟨s_,H1,H⟩:=zad H;repeat apply TW.seq
 refine cu [4,6] 2 (fun h bs=>(h 4=.ptr 1 0 10∧h 6=lPat s_)∧bs=[.cells true 20 (p.mask.l.map (T.int .i64)++(p.bits.l.map (T.int .i64))),.cells true 10 ((zA 10).l.map (T.int .i64))]) ?_ ?_
 ·skip;repeat apply TW.seq
  apply TW.block;repeat apply TW.seq
  refine TW.loopT [1,4,6,7] (fun m h bs=>∃ (left:List Pat) (i:Int),zcr k l m left i=some s_∧(h 1=lPat l∧h 4=.ptr 1 0 10∧h 6=lPat left∧h 7=.int .i64 i)∧bs=[.cells true 20 (p.mask.l.map (T.int .i64)++(p.bits.l.map (T.int .i64))),.cells true 10 ((zA 10).l.map (T.int .i64))]) ?_ k _ _ ?_;rotate_left
  ·exact ⟨[p],0,H1,kq hh,rfl⟩
  clear hh h H1;rintro m h bs ⟨left,i,H1,hh,rfl⟩;rcases m with _|m
  ·rw [zcr] at H1;cases H1
  rw [zcr] at H1;repeat apply TW.seq
  refine rk [1,4,6,7,15] [] (f2 hh (ziw ax)) ?_;clear hh h;intro h hh;rcases isp H1 with ⟨c1,H1⟩|⟨c1,H1⟩;rotate_left
  ·skip;repeat apply TW.seq
   refine cf (f2 hh (decide_eq_false c1)) ?_;refine xk ?_;cases H1;exact ce hh ⟨kq hh,rfl⟩
  repeat apply TW.seq
  refine ct (f2 hh (decide_eq_true c1)) ?_;repeat apply TW.seq
  refine sk ?_;repeat apply TW.seq
  apply TW.block;obtain ⟨g2,H1⟩:=isg H1;obtain ⟨rminusEach,e3,H1⟩:=zad H1;repeat apply TW.seq
  refine rkc [1,4,6,7] [] [(lPat rminusEach,stL [.cells true 20 (p.mask.l.map (T.int .i64)++(p.bits.l.map (T.int .i64))),.cells true 10 ((zA 10).l.map (T.int .i64))])] (f3 hh (zal g2) (ziw ax)) ?_ ?_
  ·exact ⟨zaj.call ((zpd ax hx k left (gx l i) rminusEach e3 ).call _),trivial⟩
  clear hh h;intro h hh;repeat apply TW.seq
  refine rk [1,4,6,7] [] hh ?_;clear hh h;intro h hh;exact rd m hh ⟨rminusEach,(IntKind.i64.wrap (i+1)),H1,kq hh,rfl⟩
 clear hh h;rintro h bs ⟨hh,rfl⟩;repeat apply TW.seq
 refine rk [4,6,26] [] (f2 hh (ziw ax)) ?_;clear hh h;intro h hh;rcases isp H with ⟨c4,H⟩|⟨c4,H⟩;rotate_left
 ·skip;repeat apply TW.seq
  refine cf (f2 hh (decide_eq_false c4)) ?_;repeat apply TW.seq
  refine sk ?_;obtain ⟨g5,H⟩:=isg H;repeat apply TW.seq
  refine rk [4,6,8] [] (f3 hh (zal g5) (f2 (ycl ax) (ziw ax))) ?_;clear hh h;intro h hh;repeat apply TW.seq
  refine rk [4,6,8,9] [] hh ?_;clear hh h;intro h hh;obtain ⟨s_2,H1,H⟩:=zad H;repeat apply TW.seq
  refine cu [4,8] 3 (fun h bs=>(h 4=.ptr 1 0 10∧h 8=.ptr 2 0 10)∧bs=[.cells true 20 (p.mask.l.map (T.int .i64)++(p.bits.l.map (T.int .i64))),.cells true 10 ((zA 10).l.map (T.int .i64)),.cells true 10 (s_2.l.map (T.int .i64))]) ?_ ?_
  ·skip;repeat apply TW.seq
   apply TW.block;repeat apply TW.seq
   refine TW.loopT [4,6,8,9] (fun m h bs=>∃ (i2:Int) (x:Ar 10),zb0 k s_ m i2 x=some s_2∧(h 4=.ptr 1 0 10∧h 6=lPat s_∧h 8=.ptr 2 0 10∧h 9=.int .i64 i2)∧bs=[.cells true 20 (p.mask.l.map (T.int .i64)++(p.bits.l.map (T.int .i64))),.cells true 10 ((zA 10).l.map (T.int .i64)),.cells true 10 (x.l.map (T.int .i64))]) ?_ k _ _ ?_;rotate_left
   ·exact ⟨1,((gx s_ 0).bits),H1,kq hh,rfl⟩
   clear hh h H1;rintro m h bs ⟨i2,x,H1,hh,rfl⟩;rcases m with _|m
   ·rw [zb0] at H1;cases H1
   rw [zb0] at H1;repeat apply TW.seq
   refine rk [4,6,8,9,35] [] (f2 hh (ziw ax)) ?_;clear hh h;intro h hh;rcases isp H1 with ⟨c6,H1⟩|⟨c6,H1⟩;rotate_left
   ·skip;repeat apply TW.seq
    refine cf (f2 hh (decide_eq_false c6)) ?_;refine xk ?_;cases H1;exact ce hh ⟨kq hh,rfl⟩
   repeat apply TW.seq
   refine ct (f2 hh (decide_eq_true c6)) ?_;repeat apply TW.seq
   refine sk ?_;repeat apply TW.seq
   apply TW.block;obtain ⟨g7,H1⟩:=isg H1;obtain ⟨rCompareHeads,e8,H1⟩:=zad H1;repeat apply TW.seq
   refine dk 6 [4,6,8,9,45] [] [] [(.int .i64 rCompareHeads,stL [.cells true 20 (p.mask.l.map (T.int .i64)++(p.bits.l.map (T.int .i64))),.cells true 10 ((zA 10).l.map (T.int .i64)),.cells true 10 (x.l.map (T.int .i64))])] (f3 hh (zal g7) (f2 (ycl ax) (ziw ax))) trivial ?_ ?_
   ·exact ⟨zaj.call ((zid ax hx k ((gx s_ i2).bits) x rCompareHeads e8 ).call _),trivial⟩
   clear hh h;intro h hh;rcases isp H1 with ⟨c9,H1⟩|⟨c9,H1⟩;rotate_left
   ·skip;repeat apply TW.seq
    refine cf (f2 hh (decide_eq_false c9)) ?_;repeat apply TW.seq
    refine sk ?_;repeat apply TW.seq
    refine rk [4,6,8,9] [] hh ?_;clear hh h;intro h hh;exact rd m hh ⟨(IntKind.i64.wrap (i2+1)),x,H1,kq hh,rfl⟩
   repeat apply TW.seq
   refine ct (f2 hh (decide_eq_true c9)) ?_;repeat apply TW.seq
   refine rk [4,6,8,9] [] (f3 hh (zal g7) (f2 (ycl ax) (ziw ax))) ?_;clear hh h;intro h hh;repeat apply TW.seq
   refine rk [4,6,8,9] [] hh ?_;clear hh h;intro h hh;exact rd m hh ⟨(IntKind.i64.wrap (i2+1)),((gx s_ i2).bits),H1,kq hh,rfl⟩
  clear hh h;rintro h bs ⟨hh,rfl⟩;repeat apply TW.seq
  refine rk [4,5] [] hh ?_;clear hh h;intro h hh;cases H;exact rtc hh
 repeat apply TW.seq
 refine ct (f2 hh (decide_eq_true c4)) ?_;repeat apply TW.seq
 refine rk [4,5] [] (f2 hh (bz39 ax)) ?_;clear hh h;intro h hh;cases H;exact rtc hh
def zca (k:Nat) (l:List Pat):Nat→Int→Option (Bool ⊕ Unit)
 |0,_=>none
 |m+1,i=>(if i<(l.length:Int) then (if (0:Int)≤i∧i<(l.length:Int) then ((zhn k (gx l i)).bind fun rRight=>(if rRight=true then zca k l m (IntKind.i64.wrap (i+1)) else some (.inl false))) else none) else some (.inr ()))
def zgz (k:Nat) (l:List Pat):Option Bool:=((zca k l k 0:Option (Bool ⊕ Unit)).bind fun o=>Sum.elim (fun r=>some r) (fun s_=>some true) o)
set_option maxHeartbeats 8000000 in
theorem zqy (ax:Axs) (hx:zbx ax) (k:Nat) (l:List Pat) (v:Bool) (H:zgz k l=some v):Pure Tryz.prog (EE ax) [] 138 [lPat l] (.bool v):=by
 rw [zgz] at H;refine en [.tmp 2] 18 [0] (hx.no _ (by decide)) (fn138 ax) ?_;intro h hh;repeat apply TW.seq
 refine rk [0] [] hh ?_;clear hh h;intro h hh;repeat apply TW.seq
 refine rk [0,3] [] hh ?_;clear hh h;intro h hh;obtain ⟨o,H1,H⟩:=zad H;repeat apply TW.seq
 refine cu [] 0 (fun h bs=>∃ s_:Unit,o=.inr s_∧(True)∧bs=[]) ?_ ?_
 ·skip;repeat apply TW.seq
  apply TW.block;repeat apply TW.seq
  refine TW.loopT [0,3] (fun m h bs=>∃ (i:Int),zca k l m i=some o∧(h 0=lPat l∧h 3=.int .i64 i)∧bs=[]) ?_ k _ _ ?_;rotate_left
  ·exact ⟨0,H1,kq hh,rfl⟩
  clear hh h H1;rintro m h bs ⟨i,H1,hh,rfl⟩;rcases m with _|m
  ·rw [zca] at H1;cases H1
  rw [zca] at H1;repeat apply TW.seq
  refine rk [0,3,8] [] (f2 hh (ziw ax)) ?_;clear hh h;intro h hh;rcases isp H1 with ⟨c1,H1⟩|⟨c1,H1⟩;rotate_left
  ·skip;repeat apply TW.seq
   refine cf (f2 hh (decide_eq_false c1)) ?_;refine xk ?_;cases H1;exact ce hh ⟨_,rfl,kq hh,rfl⟩
  repeat apply TW.seq
  refine ct (f2 hh (decide_eq_true c1)) ?_;repeat apply TW.seq
  refine sk ?_;repeat apply TW.seq
  apply TW.block;obtain ⟨g2,H1⟩:=isg H1;obtain ⟨rRight,e3,H1⟩:=zad H1;repeat apply TW.seq
  refine rkc [0,3,4] [] [(.bool rRight,stL [])] (f3 hh (zal g2) (ziw ax)) ?_ ?_
  ·exact ⟨zaj.call ((zkq ax hx k (gx l i) rRight e3 ).call _),trivial⟩
  clear hh h;intro h hh;repeat apply TW.seq
  refine rk [0,3,17] [] hh ?_;clear hh h;intro h hh;rcases isb H1 with ⟨c4,H1⟩|⟨c4,H1⟩;rotate_left
  ·skip;repeat apply TW.seq
   refine ct (f2 hh c4) ?_;repeat apply TW.seq
   refine rk [2] [] (f2 hh c4) ?_;clear hh h;intro h hh;cases H1;obtain rfl:=sinl H;exact rt hh
  repeat apply TW.seq
  refine cf (f2 hh c4) ?_;repeat apply TW.seq
  refine sk ?_;repeat apply TW.seq
  refine rk [0,3] [] (f2 hh c4) ?_;clear hh h;intro h hh;exact rd m hh ⟨(IntKind.i64.wrap (i+1)),H1,kq hh,rfl⟩
 clear hh h;rintro h bs ⟨s_,rfl,hh,rfl⟩;replace H:=sinr H;repeat apply TW.seq
 refine rk [2] [] hh ?_;clear hh h;intro h hh;cases H;exact rt hh
def zef (k:Nat) (p:Pat):Nat→Int→Int→Option Int
 |0,_,_=>none
 |m+1,n,i=>(if i<160 then ((zd6 k p.mask i).bind fun rBit=>zef k p m (IntKind.i64.wrap ((IntKind.i64.wrap (n+1)) - rBit)) (IntKind.i64.wrap (i+1))) else some n)
def zlv (k:Nat) (p:Pat):Option Int:=((zef k p k 0 0:Option Int).bind fun s_=>some s_)
set_option maxHeartbeats 8000000 in
theorem zzj (ax:Axs) (hx:zbx ax) (k:Nat) (p:Pat) (v:Int) (H:zlv k p=some v):Pure Tryz.prog (EE ax) [] 149 [ePat p] (.int .i64 v):=by
 rw [zlv] at H;refine en [.tmp 2] 17 [0] (hx.no _ (by decide)) (fn149 ax) ?_;intro h hh;repeat apply TW.seq
 refine rk [1] [] hh ?_;clear hh h;intro h hh;repeat apply TW.seq
 refine rk [1,3] [] hh ?_;clear hh h;intro h hh;repeat apply TW.seq
 refine rk [1,3,4] [] hh ?_;clear hh h;intro h hh;obtain ⟨s_,H1,H⟩:=zad H;repeat apply TW.seq
 refine cu [3] 1 (fun h bs=>(h 3=.int .i64 s_)∧bs=[.cells true 20 (p.mask.l.map (T.int .i64)++(p.bits.l.map (T.int .i64)))]) ?_ ?_
 ·skip;repeat apply TW.seq
  apply TW.block;repeat apply TW.seq
  refine TW.loopT [1,3,4] (fun m h bs=>∃ (n:Int) (i:Int),zef k p m n i=some s_∧(h 1=.ptr 0 0 20∧h 3=.int .i64 n∧h 4=.int .i64 i)∧bs=[.cells true 20 (p.mask.l.map (T.int .i64)++(p.bits.l.map (T.int .i64)))]) ?_ k _ _ ?_;rotate_left
  ·exact ⟨0,0,H1,kq hh,rfl⟩
  clear hh h H1;rintro m h bs ⟨n,i,H1,hh,rfl⟩;rcases m with _|m
  ·rw [zef] at H1;cases H1
  rw [zef] at H1;repeat apply TW.seq
  refine rk [1,3,4,6] [] hh ?_;clear hh h;intro h hh;rcases isp H1 with ⟨c1,H1⟩|⟨c1,H1⟩;rotate_left
  ·skip;repeat apply TW.seq
   refine cf (f2 hh (decide_eq_false c1)) ?_;refine xk ?_;cases H1;exact ce hh ⟨kq hh,rfl⟩
  repeat apply TW.seq
  refine ct (f2 hh (decide_eq_true c1)) ?_;repeat apply TW.seq
  refine sk ?_;repeat apply TW.seq
  apply TW.block;obtain ⟨rBit,e2,H1⟩:=zad H1;repeat apply TW.seq
  refine rkc [1,3,4] [] [(.int .i64 rBit,stL [.cells true 20 (p.mask.l.map (T.int .i64)++(p.bits.l.map (T.int .i64)))])] hh ?_ ?_
  ·exact ⟨zaj.call ((zb1 ax hx k p.mask i rBit e2 ).call _),trivial⟩
  clear hh h;intro h hh;repeat apply TW.seq
  refine rk [1,3,4] [] hh ?_;clear hh h;intro h hh;exact rd m hh ⟨(IntKind.i64.wrap ((IntKind.i64.wrap (n+1)) - rBit)),(IntKind.i64.wrap (i+1)),H1,kq hh,rfl⟩
 clear hh h;rintro h bs ⟨hh,rfl⟩;repeat apply TW.seq
 refine rk [2] [] hh ?_;clear hh h;intro h hh;cases H;exact rt hh
def zer (k:Nat) (l:List Pat):Nat→Int→(Ar 10)→Option (Ar 10)
 |0,_,_=>none
 |m+1,i,x=>(if i<(l.length:Int) then (if (0:Int)≤i∧i<(l.length:Int) then ((zj8 k (⟨(gx l i).mask,(gx l i).mask⟩:Pat) x).bind fun rApply=>zer k l m (IntKind.i64.wrap (i+1)) rApply) else none) else some x)
def zj7 (k:Nat) (l:List Pat):Option Int:=((zer k l k 0 (zA 10):Option (Ar 10)).bind fun s_=>((zlv k (⟨s_,(zA 10)⟩:Pat)).bind fun rFree=>some (IntKind.i64.wrap (160 - rFree))))
set_option maxHeartbeats 8000000 in
theorem zxr (ax:Axs) (hx:zbx ax) (k:Nat) (l:List Pat) (v:Int) (H:zj7 k l=some v):Pure Tryz.prog (EE ax) [] 139 [lPat l] (.int .i64 v):=by
 rw [zj7] at H;refine en [.tmp 2] 30 [0] (hx.no _ (by decide)) (fn139 ax) ?_;intro h hh;repeat apply TW.seq
 refine rk [0] [] hh ?_;clear hh h;intro h hh;repeat apply TW.seq
 refine rk [0,3] [] hh ?_;clear hh h;intro h hh;repeat apply TW.seq
 refine rk [0,3,4] [] hh ?_;clear hh h;intro h hh;obtain ⟨s_,H1,H⟩:=zad H;repeat apply TW.seq
 refine cu [3] 1 (fun h bs=>(h 3=.ptr 0 0 20)∧bs=[.cells true 20 (s_.l.map (T.int .i64)++((zA 10).l.map (T.int .i64)))]) ?_ ?_
 ·skip;repeat apply TW.seq
  apply TW.block;repeat apply TW.seq
  refine TW.loopT [0,3,4] (fun m h bs=>∃ (i:Int) (x:Ar 10),zer k l m i x=some s_∧(h 0=lPat l∧h 3=.ptr 0 0 20∧h 4=.int .i64 i)∧bs=[.cells true 20 (x.l.map (T.int .i64)++((zA 10).l.map (T.int .i64)))]) ?_ k _ _ ?_;rotate_left
  ·exact ⟨0,(zA 10),H1,kq hh,rfl⟩
  clear hh h H1;rintro m h bs ⟨i,x,H1,hh,rfl⟩;rcases m with _|m
  ·rw [zer] at H1;cases H1
  rw [zer] at H1;repeat apply TW.seq
  refine rk [0,3,4,9] [] (f2 hh (ziw ax)) ?_;clear hh h;intro h hh;rcases isp H1 with ⟨c1,H1⟩|⟨c1,H1⟩;rotate_left
  ·skip;repeat apply TW.seq
   refine cf (f2 hh (decide_eq_false c1)) ?_;refine xk ?_;cases H1;exact ce hh ⟨kq hh,rfl⟩
  repeat apply TW.seq
  refine ct (f2 hh (decide_eq_true c1)) ?_;repeat apply TW.seq
  refine sk ?_;repeat apply TW.seq
  apply TW.block;obtain ⟨g2,H1⟩:=isg H1;obtain ⟨rApply,e3,H1⟩:=zad H1;repeat apply TW.seq
  refine dk 13 [0,3,4] [] [] [(.agg (rApply.l.map (T.int .i64)),stL [.cells true 20 (x.l.map (T.int .i64)++((zA 10).l.map (T.int .i64)))])] (f3 hh (zal g2) (f3 (bt92 ax) (yl6 ax) (f3 (ylk ax) (ylj ax) (ziw ax)))) trivial ?_ ?_
  ·exact ⟨zaj.call ((zxs ax hx k (⟨(gx l i).mask,(gx l i).mask⟩:Pat) x rApply e3 ).call _),trivial⟩
  clear hh h;intro h hh;repeat apply TW.seq
  refine rk [0,3,4] [] hh ?_;clear hh h;intro h hh;exact rd m hh ⟨(IntKind.i64.wrap (i+1)),rApply,H1,kq hh,rfl⟩
 clear hh h;rintro h bs ⟨hh,rfl⟩;obtain ⟨rFree,e4,H⟩:=zad H;repeat apply TW.seq
 refine rkc [2] [] [(.int .i64 rFree,stL [.cells true 20 (s_.l.map (T.int .i64)++((zA 10).l.map (T.int .i64)))])] hh ?_ ?_
 ·exact ⟨zaj.call ((zzj ax hx k (⟨s_,(zA 10)⟩:Pat) rFree e4 ).call _),trivial⟩
 clear hh h;intro h hh;cases H;exact rt hh
def zn8 (k:Nat) (l:List Pat) (most:Int):Option Bool:=((zgz k l).bind fun rRightAll=>(if rRightAll=true then (if (l.length:Int)≤most then ((zj7 k l).bind fun rFixed=>some (decide (rFixed≤12))) else some false) else some false))
set_option maxHeartbeats 8000000 in
theorem z2l (ax:Axs) (hx:zbx ax) (k:Nat) (l:List Pat) (most:Int) (v:Bool) (H:zn8 k l most=some v):Pure Tryz.prog (EE ax) [] 116 [lPat l,.int .i64 most] (.bool v):=by
 rw [zn8] at H;refine en [.tmp 4] 20 [0,1] (hx.no _ (by decide)) (fn116 ax) ?_;intro h hh;repeat apply TW.seq
 refine rk [0,1] [] hh ?_;clear hh h;intro h hh;obtain ⟨rRightAll,e1,H⟩:=zad H;repeat apply TW.seq
 refine rkc [0,1,5] [] [(.bool rRightAll,stL [])] hh ?_ ?_
 ·exact ⟨zaj.call ((zqy ax hx k l rRightAll e1 ).call _),trivial⟩
 clear hh h;intro h hh;rcases isb H with ⟨c2,H⟩|⟨c2,H⟩;rotate_left
 ·skip;repeat apply TW.seq
  refine rk [4] [] (f2 hh c2) ?_;clear hh h;intro h hh;cases H;exact rt hh
 rcases isp H with ⟨c3,H⟩|⟨c3,H⟩;rotate_left
 ·skip;repeat apply TW.seq
  refine rk [4] [] (f3 hh c2 (f2 (decide_eq_false c3) (ziw ax))) ?_;clear hh h;intro h hh;cases H;exact rt hh
 obtain ⟨rFixed,e4,H⟩:=zad H;repeat apply TW.seq
 refine rkc [4] [] [(.int .i64 rFixed,stL [])] (f3 hh c2 (f2 (decide_eq_true c3) (ziw ax))) ?_ ?_
 ·exact ⟨zaj.call (Pure.clr (zxr ax hx k l rFixed e4 ) (by first|rfl|simp only [c2])),trivial⟩
 clear hh h;intro h hh;cases H;exact rt hh
def zj2 (k:Nat) (t:List Rule):Option Bool:=((zhk k t (t.length:Int)).bind fun rbefore=>((zn8 k rbefore 12).bind fun rFew=>some rFew))
set_option maxHeartbeats 8000000 in
theorem zxm (ax:Axs) (hx:zbx ax) (k:Nat) (t:List Rule) (v:Bool) (H:zj2 k t=some v):Pure Tryz.prog (EE ax) [] 66 [zao t] (.bool v):=by
 rw [zj2] at H;refine en [.tmp 2] 8 [0] (hx.no _ (by decide)) (fn66 ax) ?_;intro h hh;repeat apply TW.seq
 refine rk [0] [] hh ?_;clear hh h;intro h hh;obtain ⟨rbefore,e1,H⟩:=zad H;obtain ⟨rFew,e2,H⟩:=zad H;repeat apply TW.seq
 refine rkc [2] [] [(lPat rbefore,stL []),(.bool rFew,stL [])] hh ?_ ?_
 ·exact ⟨zaj.call ((zjq ax hx k t (t.length:Int) rbefore e1 ).call _),zaj.call ((z2l ax hx k rbefore 12 rFew e2 ).call _),trivial⟩
 clear hh h;intro h hh;cases H;exact rt hh
end
section
open Go Go.RowKit
theorem z5j {P:Nat→Prop}:∀ n,(∃ i,i<n∧P i)→∃ i,i<n∧P i∧∀ j,j<i→¬ P j
  |0,⟨i,hi,_⟩=>by omega
  |n+1,⟨i,hi,hp⟩=>by
    by_cases h:∃ i,i<n∧P i
    · obtain ⟨j,h1,h2,h3⟩:=z5j n h;exact ⟨j,by omega,h2,h3⟩
    · exact ⟨i,hi,hp,fun j hj hpj=>h ⟨j,by omega,hpj⟩⟩
theorem z7c {a b:Nat} (ha:a<65536) (hb:b<65536) (h:a≠b):∃ t,t<16∧(∀ s,t<s→a.testBit s=b.testBit s)∧a.testBit t≠b.testBit t:=by
  have hex:∃ u,u<16∧a.testBit (15 - u)≠b.testBit (15 - u):=by
    refine Classical.byContradiction fun hn=>h (zq4 ha hb fun t ht=>?_);refine Classical.byContradiction fun hd=>hn ⟨15 - t,by omega,?_⟩;rw [show 15 - (15 - t)=t by omega];exact hd
  obtain ⟨u,h1,h2,h3⟩:=z5j 16 hex;refine ⟨15 - u,by omega,fun s hs=>?_,h2⟩;by_cases hs16:s<16
  · have:=h3 (15 - s) (by omega);rw [show 15 - (15 - s)=s by omega] at this;exact Classical.byContradiction this
  · have e:65536≤2 ^ s:=Nat.pow_le_pow_right (n:=2) (by decide) (show 16≤s by omega);rw [Nat.testBit_lt_two_pow (Nat.lt_of_lt_of_le ha e),Nat.testBit_lt_two_pow (Nat.lt_of_lt_of_le hb e)]
theorem z7y {a b t:Nat} (ha:a.testBit t=false) (hb:b.testBit t=true) (hs:∀ s,t<s→a.testBit s=b.testBit s):a<b:=by
  have e:a / 2 ^ (t+1)=b / 2 ^ (t+1):=by
    apply Nat.eq_of_testBit_eq;intro i;rw [Nat.testBit_div_two_pow,Nat.testBit_div_two_pow];exact hs _ (by omega)
  rw [Nat.pow_succ,← Nat.div_div_eq_div_mul,← Nat.div_div_eq_div_mul] at e;rw [Nat.testBit_eq_decide_div_mod_eq] at ha hb;have ha':=of_decide_eq_false ha;have hb':=of_decide_eq_true hb;apply Nat.lt_of_not_le;intro h;have:=Nat.div_le_div_right (c:=2 ^ t) h;omega
theorem zol {a b:Ar 10} (ha:zab a=true) (hb:zab b=true) {j:Nat} (hj:j<10) (he:∀ i,i<j→hw a i=hw b i) (hl:hw a j<hw b j):ltH a b:=by
  obtain ⟨t,h1,h2,h3⟩:=z7c (zbh ha hj).2 (zbh hb hj).2 (by omega)
  have hat:(hw a j).testBit t=false∧(hw b j).testBit t=true:=by
    cases e1:(hw a j).testBit t with
    |false =>
      cases e2:(hw b j).testBit t with
      |false=>rw [e1,e2] at h3;exact absurd rfl h3
      |true=>exact ⟨rfl,rfl⟩
    |true =>
      cases e2:(hw b j).testBit t with
      |true=>rw [e1,e2] at h3;exact absurd rfl h3
      |false =>
        have:=z7y e2 e1 fun s hs=>(h2 s hs).symm;omega
  refine ⟨16*j+(15 - t),by omega,fun s hs=>?_,?_,?_⟩
  · unfold hbit;by_cases c:s / 16=j
    · rw [c];exact h2 _ (by omega)
    · rw [he (s / 16) (by omega)]
  · rw [zhr a hj h1];exact hat.1
  · rw [zhr b hj h1];exact hat.2
theorem zms {a:Ar 10}:¬ ltH a a:=by
  rintro ⟨i,_,_,h1,h2⟩;rw [h1] at h2;cases h2
theorem z0q {a b:Ar 10} (h:ltH a b):¬ ltH b a:=by
  obtain ⟨i,h1,h2,h3,h4⟩:=h;rintro ⟨j,k1,k2,k3,k4⟩;rcases Nat.lt_trichotomy i j with c|c|c
  · have:=k2 i c;rw [h3,h4] at this;cases this
  · subst c;rw [h3] at k4;cases k4
  · have:=h2 j c;rw [k3,k4] at this;cases this
theorem zom {a b c:Ar 10} (h:ltH a b) (k:ltH b c):ltH a c:=by
  obtain ⟨i,h1,h2,h3,h4⟩:=h;obtain ⟨j,k1,k2,k3,k4⟩:=k;rcases Nat.lt_trichotomy i j with e|e|e
  · exact ⟨i,h1,fun s hs=>by rw [h2 s hs,k2 s (by omega)],h3,by rw [← k2 i e];exact h4⟩
  · subst e;rw [h4] at k3;cases k3
  · exact ⟨j,k1,fun s hs=>by rw [h2 s (by omega),k2 s hs],by rw [h2 j e];exact k3,k4⟩
def Cmp (a b:Ar 10) (c:Int):Prop:=(c=-1∧ltH a b)∨(c=1∧ltH b a)∨(c=0∧a=b)
theorem Cmp.neg {a b:Ar 10} {c:Int} (h:Cmp a b c):c<0↔ltH a b:=by
  rcases h with ⟨rfl,h⟩|⟨rfl,h⟩|⟨rfl,rfl⟩
  · exact ⟨fun _=>h,fun _=>by decide⟩
  · exact ⟨fun q=>absurd q (by decide),fun q=>absurd q (z0q h)⟩
  · exact ⟨fun q=>absurd q (by decide),fun q=>absurd q zms⟩
theorem Cmp.pos {a b:Ar 10} {c:Int} (h:Cmp a b c):0<c↔ltH b a:=by
  rcases h with ⟨rfl,h⟩|⟨rfl,h⟩|⟨rfl,rfl⟩
  · exact ⟨fun q=>absurd q (by decide),fun q=>absurd q (z0q h)⟩
  · exact ⟨fun _=>h,fun _=>by decide⟩
  · exact ⟨fun q=>absurd q (by decide),fun q=>absurd q zms⟩
theorem zlf {k:Nat} {a b:Ar 10} (ha:zab a=true) (hb:zab b=true) (hk:10<k):∃ c,zdc k a b=some c∧Cmp a b c:=by
  have key:∀ m j,j≤10→10 - j<m→(∀ i,i<j→hw a i=hw b i)→∃ o,zbk k a b m (j:Int)=some o∧((∃ c,o=.inl c∧Cmp a b c)∨(o=.inr ()∧a=b)):=by
    intro m
    induction m with
    |zero=>intro j h1 h2;omega
    |succ m ih =>
      intro j h1 h2 h3;rw [zbk];by_cases c:j<10
      · obtain ⟨a1,a2⟩:=zbh ha c;obtain ⟨b1,b2⟩:=zbh hb c;rw [if_pos (lt10 c),if_pos ⟨by omega,lt10 c⟩,a1,b1,zbm j (by omega)];by_cases c1:hw a j<hw b j
        · rw [if_pos (zam c1)];exact ⟨_,rfl,.inl ⟨_,rfl,.inl ⟨rfl,zol ha hb c h3 c1⟩⟩⟩
        · rw [if_neg (by omega)];by_cases c2:hw b j<hw a j
          · rw [if_pos (zam c2)];exact ⟨_,rfl,.inl ⟨_,rfl,.inr (.inl ⟨rfl,zol hb ha c (fun i hi=>(h3 i hi).symm) c2⟩)⟩⟩
          · rw [if_neg (by omega)]
            exact ih (j+1) (by omega) (by omega) fun i hi=>by
              by_cases e:i<j
              · exact h3 i e
              · obtain rfl:i=j:=by omega
                omega
      · obtain rfl:j=10:=by omega
        rw [if_neg (by decide)];refine ⟨_,rfl,.inr ⟨rfl,zrm ha hb fun i hi=>?_⟩⟩;unfold hbit;rw [h3 (i / 16) (by omega)]
  obtain ⟨o,e,h⟩:=key k 0 (by omega) (by omega) (fun i hi=>by omega);unfold zdc;rw [show ((0:Nat):Int)=0 from rfl] at e;rw [e,Option.bind_some];rcases h with ⟨c,rfl,h⟩|⟨rfl,h⟩
  · exact ⟨c,rfl,h⟩
  · exact ⟨0,rfl,.inr (.inr ⟨rfl,h⟩)⟩
end
section
open Go Go.RowKit
structure Meet (p q r:Pat):Prop where
  mask:zab r.mask=true
  bits:zab r.bits=true
  hm:∀ j,j<160→hbit r.mask j=(hbit p.mask j || hbit q.mask j)
  hb:∀ j,j<160→hbit r.bits j=if hbit q.mask j=true then hbit q.bits j else hbit p.bits j
theorem zo6 {a:Bool}:((a.toNat:Int)=0)↔a=false:=by cases a<;>decide
structure AndI (p q:Pat) (i:Nat) (x y:Ar 10):Prop where
  rx:zab x=true
  ry:zab y=true
  hx:∀ j,j<160→hbit x j=(hbit p.mask j || (decide (j<i) && hbit q.mask j))
  hy:∀ j,j<160→hbit y j=if (decide (j<i) && hbit q.mask j)=true then hbit q.bits j else hbit p.bits j
  ok:∀ j,j<i→hbit p.mask j=true→hbit q.mask j=true→hbit p.bits j=hbit q.bits j
theorem yao {k:Nat} {p q:Pat} (hp:zag p=true) (hq:zag q=true) (hk:160<k):∃ r,zmm k p q=some r∧((zdk p q=false∧r.2=false)∨(zdk p q=true∧r.2=true∧Meet p q r.1)):=by
  obtain ⟨pm,pb,pw⟩:=zai.1 hp;obtain ⟨qm,qb,qw⟩:=zai.1 hq
  have key:∀ m i x y,i≤160→160 - i<m→AndI p q i x y→∃ o,zfh k q m (i:Int) x y=some o∧((∃ r,o=.inl r∧r.2=false∧zdk p q=false)∨∃ x y,o=.inr (x,y)∧AndI p q 160 x y):=by
    intro m
    induction m with
    |zero=>intro i x y h1 h2;omega
    |succ m ih =>
      intro i x y h1 h2 hI;rw [zfh];by_cases c:i<160
      · rw [if_pos (yex c),zhb qm c (by omega),Option.bind_some,zbm i (by omega)];by_cases c1:hbit q.mask i=false
        · rw [if_pos (zo6.2 c1)]
          have hd:∀ j,(decide (j<i+1) && hbit q.mask j)=(decide (j<i) && hbit q.mask j):=fun j=>by
            by_cases e:j=i
            · subst e;rw [c1];simp
            · rw [show decide (j<i+1)=decide (j<i) from decide_eq_decide.2 (by omega)]
          refine ih (i+1) x y (by omega) (by omega) ⟨hI.rx,hI.ry,fun j hj=>by rw [hd,hI.hx j hj],fun j hj=>by rw [hd,hI.hy j hj],fun j hj h3 h4=>?_⟩;by_cases e:j=i
          · rw [e,c1] at h4;cases h4
          · exact hI.ok j (by omega) h3 h4
        · have c1':hbit q.mask i=true:=by simpa using c1
          have xi:hbit x i=hbit p.mask i:=by rw [hI.hx i c];simp
          have yi:hbit y i=hbit p.bits i:=by rw [hI.hy i c,if_neg (by simp)]
          rw [if_neg (fun h=>c1 (zo6.1 h)),zhb hI.rx c (by omega),Option.bind_some,zhb hI.ry c (by omega),Option.bind_some,zhb qb c (by omega),Option.bind_some,xi,yi];by_cases c2:hbit p.mask i=true∧hbit p.bits i≠hbit q.bits i
          · rw [if_pos (zk9.2 c2.1),Option.bind_some,if_pos (decide_eq_true (z63.2 c2.2))];refine ⟨_,rfl,.inl ⟨_,rfl,rfl,?_⟩⟩
            cases ho:zdk p q with
            |false=>rfl
            |true=>exact absurd (zh1.1 ho i c c2.1 c1') c2.2
          · have e2:(if ((hbit p.mask i).toNat:Int)=1 then some (decide (((hbit p.bits i).toNat:Int)≠((hbit q.bits i).toNat:Int))) else some false)=some false:=by
              by_cases c3:hbit p.mask i=true
              · have:hbit p.bits i=hbit q.bits i:=Classical.byContradiction fun h=>c2 ⟨c3,h⟩;rw [if_pos (zk9.2 c3),decide_eq_false (fun h=>(z63.1 h) this)]
              · rw [if_neg (fun h=>c3 (zk9.1 h))]
            rw [e2,Option.bind_some,if_neg (by simp)];obtain ⟨x2,s1,s2,s3⟩:=zmn (k:=k) (b:=true) hI.rx c (by omega);obtain ⟨y2,t1,t2,t3⟩:=zmn (k:=k) (b:=hbit q.bits i) hI.ry c (by omega);have s1':zgh k x (i:Int) 1=some x2:=s1;rw [s1',Option.bind_some,Option.bind_some,t1,Option.bind_some];refine ih (i+1) x2 y2 (by omega) (by omega) ⟨s2,t2,fun j hj=>?_,fun j hj=>?_,fun j hj h3 h4=>?_⟩
            · rw [s3 j hj];by_cases e:j=i
              · subst e;rw [if_pos rfl,c1'];simp
              · rw [if_neg e,hI.hx j hj,show decide (j<i+1)=decide (j<i) from decide_eq_decide.2 (by omega)]
            · rw [t3 j hj];by_cases e:j=i
              · subst e;rw [if_pos rfl,c1',if_pos (by simp)]
              · rw [if_neg e,hI.hy j hj,show decide (j<i+1)=decide (j<i) from decide_eq_decide.2 (by omega)]
            · by_cases e:j=i
              · subst e;exact Classical.byContradiction fun h=>c2 ⟨h3,h⟩
              · exact hI.ok j (by omega) h3 h4
      · obtain rfl:i=160:=by omega
        rw [if_neg (by decide)];exact ⟨_,rfl,.inr ⟨x,y,rfl,hI⟩⟩
  obtain ⟨o,e,h⟩:=key k 0 p.mask p.bits (by omega) (by omega) ⟨pm,pb,fun j hj=>by simp,fun j hj=>by simp,fun j hj=>by omega⟩;unfold zmm;rw [show ((0:Nat):Int)=0 from rfl] at e;rw [e,Option.bind_some];rcases h with ⟨r,rfl,h1,h2⟩|⟨x,y,rfl,hI⟩
  · exact ⟨r,rfl,.inl ⟨h2,h1⟩⟩
  · refine ⟨_,rfl,.inr ⟨zh1.2 fun i hi=>hI.ok i hi,rfl,hI.rx,hI.ry,fun j hj=>?_,fun j hj=>?_⟩⟩
    · rw [hI.hx j hj];simp [hj]
    · rw [hI.hy j hj];simp [hj]
theorem z2u {k:Nat} {p q:Pat} (hp:zag p=true) (hq:zag q=true) (hk:160<k):zhz k p q=some (zdk p q):=by
  obtain ⟨r,e,h⟩:=yao hp hq hk;unfold zhz;rw [e,Option.bind_some];rcases h with ⟨h1,h2⟩|⟨h1,h2,_⟩<;>rw [h1,h2]
end
section
open Go Go.RowKit
def z8p (q:Pat) (i:Nat) (h:Ar 10):Prop:=∀ j,j<i→hbit q.mask j=true→hbit h j=hbit q.bits j
def Part (p q:Pat) (i:Nat) (r:Pat):Prop:=∀ h,zaq r h=true↔zaq p h=true∧z8p q i h∧hbit h i≠hbit q.bits i
theorem z22 {p q:Pat} {i:Nat} {x y h:Ar 10} (hI:AndI p q i x y) (hi:i≤160):(∀ j,j<160→hbit x j=true→hbit y j=hbit h j)↔zaq p h=true∧z8p q i h:=by
  rw [zar];constructor
  · intro hm
    have ag:z8p q i h:=fun j hj h1=>by
      have:=hm j (by omega) (by rw [hI.hx j (by omega),h1];simp [hj]);rw [hI.hy j (by omega),if_pos (by simp [hj,h1])] at this;exact this.symm
    refine ⟨fun j hj h1=>?_,ag⟩;by_cases c:j<i∧hbit q.mask j=true
    · rw [hI.ok j c.1 h1 c.2];exact (ag j c.1 c.2).symm
    · have:=hm j hj (by rw [hI.hx j hj,h1];rfl);rw [hI.hy j hj,if_neg (by simp only [Bool.and_eq_true,decide_eq_true_eq];exact c)] at this;exact this
  · rintro ⟨hm,ag⟩ j hj h1;rw [hI.hy j hj];by_cases c:j<i∧hbit q.mask j=true
    · rw [if_pos (by simp [c.1,c.2])];exact (ag j c.1 c.2).symm
    · rw [if_neg (by simp only [Bool.and_eq_true,decide_eq_true_eq];exact c)];rw [hI.hx j hj] at h1;refine hm j hj ?_;rcases Bool.or_eq_true _ _ |>.mp h1 with h2|h2
      · exact h2
      · simp only [Bool.and_eq_true,decide_eq_true_eq] at h2;exact absurd h2 c
structure yfw (p q:Pat) (i:Nat) (l:List Pat):Prop where
  len:l.length≤i
  right:∀ r,r∈l→zag r=true
  mask:∀ r,r∈l→∀ j,j<160→hbit r.mask j=true→hbit p.mask j=true∨hbit q.mask j=true
  part:∀ r,r∈l→∃ j,j<i∧hbit q.mask j=true∧Part p q j r
  all:∀ h,zaq p h=true→¬ z8p q i h→∃ r,r∈l∧zaq r h=true
  apart:l.Pairwise fun r s=>∀ h,¬ (zaq r h=true∧zaq s h=true)
theorem yf0 {k:Nat} {p q:Pat} (hp:zag p=true) (hq:zag q=true) (hk:160<k):∀ m i x y l,i≤160→160 - i<m→AndI p q i x y→(∀ j,i≤j→j<160→hbit p.mask j=true→hbit q.mask j=true→hbit p.bits j=hbit q.bits j)→yfw p q i l →
    ∃ x' y' l',zdq k q m (i:Int) x y l l.length=some (x',y',l',l'.length)∧yfw p q 160 l':=by
  obtain ⟨pm,pb,pw⟩:=zai.1 hp;obtain ⟨qm,qb,qw⟩:=zai.1 hq;intro m
  induction m with
  |zero=>intro i x y l h1 h2;omega
  |succ m ih =>
    intro i x y l h1 h2 hI hov hP;rw [zdq];by_cases c:i<160
    · rw [if_pos (yex c),zhb qm c (by omega),Option.bind_some,zbm i (by omega)];have xi:hbit x i=hbit p.mask i:=by rw [hI.hx i c];simp
      have yi:hbit y i=hbit p.bits i:=by rw [hI.hy i c,if_neg (by simp)]
      -- one bit further without a new part
      have stay:(hbit q.mask i=true→hbit p.mask i=true)→∀ x2 y2,(∀ j,j<160→hbit x2 j=hbit x j)→(∀ j,j<160→hbit y2 j=hbit y j)→zab x2=true→zab y2=true→AndI p q (i+1) x2 y2∧yfw p q (i+1) l:=fun hqp x2 y2 hx2 hy2 r1 r2=>by
        refine ⟨⟨r1,r2,fun j hj=>?_,fun j hj=>?_,fun j hj h3 h4=>?_⟩,⟨Nat.le_succ_of_le hP.len,hP.right,hP.mask,fun r hr=>?_,fun h hm hn=>?_,hP.apart⟩⟩
        · rw [hx2 j hj,hI.hx j hj];by_cases e:j=i
          · subst e
            cases hqi:hbit q.mask j with
            |false=>simp
            |true=>rw [hqp hqi];rfl
          · rw [show decide (j<i+1)=decide (j<i) from decide_eq_decide.2 (by omega)]
        · rw [hy2 j hj,hI.hy j hj];by_cases e:j=i
          · subst e;rw [if_neg (by simp)]
            cases hqi:hbit q.mask j with
            |false=>rw [if_neg (by simp)]
            |true=>rw [if_pos (by simp)];exact hov j (Nat.le_refl _) hj (hqp hqi) hqi
          · rw [show decide (j<i+1)=decide (j<i) from decide_eq_decide.2 (by omega)]
        · by_cases e:j=i
          · subst e;exact hov j (Nat.le_refl _) c h3 h4
          · exact hI.ok j (by omega) h3 h4
        · obtain ⟨j,q1,q2,q3⟩:=hP.part r hr;exact ⟨j,by omega,q2,q3⟩
        · refine hP.all h hm fun ag=>hn fun j hj hmj=>?_;by_cases e:j=i
          · subst e;rw [← zar.1 hm j c (hqp hmj)];exact hov j (Nat.le_refl _) c (hqp hmj) hmj
          · exact ag j (by omega) hmj
      by_cases c1:hbit q.mask i=false
      · rw [if_pos (zo6.2 c1),Option.bind_some,if_pos rfl];obtain ⟨a,b⟩:=stay (fun h=>by rw [c1] at h;cases h) x y (fun _ _=>rfl) (fun _ _=>rfl) hI.rx hI.ry;exact ih (i+1) x y l (by omega) (by omega) a (fun j hj=>hov j (by omega)) b
      · have c1':hbit q.mask i=true:=by simpa using c1
        rw [if_neg (fun h=>c1 (zo6.1 h)),zhb hI.rx c (by omega),Option.bind_some,Option.bind_some,xi];by_cases c2:hbit p.mask i=true
        · rw [if_pos (decide_eq_true (zk9.2 c2))];obtain ⟨a,b⟩:=stay (fun _=>c2) x y (fun _ _=>rfl) (fun _ _=>rfl) hI.rx hI.ry;exact ih (i+1) x y l (by omega) (by omega) a (fun j hj=>hov j (by omega)) b
        · have c2':hbit p.mask i=false:=by simpa using c2
          rw [if_neg (by rw [decide_eq_true_eq];exact fun h=>c2 (zk9.1 h)),zhb qb c (by omega),Option.bind_some];obtain ⟨x2,s1,s2,s3⟩:=zmn (k:=k) (b:=true) hI.rx c (by omega);obtain ⟨y2,t1,t2,t3⟩:=zmn (k:=k) (b:=!hbit q.bits i) hI.ry c (by omega);obtain ⟨y3,u1,u2,u3⟩:=zmn (k:=k) (b:=hbit q.bits i) t2 c (by omega);have s1':zgh k x (i:Int) 1=some x2:=s1;have ew:IntKind.i64.wrap (1 - ((hbit q.bits i).toNat:Int))=((!hbit q.bits i).toNat:Int):=by cases hbit q.bits i<;>decide
          have hl160:=hP.len;rw [s1',Option.bind_some,ew,t1,Option.bind_some,if_pos (by omega),u1,Option.bind_some]
          have hrp:zag ⟨x2,y2⟩=true:=zai.2 ⟨s2,t2,fun j hj h1=>by
            show hbit x2 j=true;have h1':hbit y2 j=true:=h1;rw [s3 j hj];rw [t3 j hj] at h1';by_cases e:j=i
            · rw [if_pos e]
            · rw [if_neg e] at h1' ⊢;rw [hI.hy j hj] at h1';rw [hI.hx j hj];by_cases cq:(decide (j<i) && hbit q.mask j)=true
              · rw [cq];simp
              · rw [if_neg cq] at h1'
                rw [pw j hj h1'];rfl⟩
          have hpart:Part p q i ⟨x2,y2⟩:=fun h=>by
            rw [zar,← and_assoc,← z22 hI (by omega)];constructor
            · intro hm;refine ⟨fun j hj h1=>?_,?_⟩
              · have hne:j≠i:=by intro e;rw [e,xi,c2'] at h1;cases h1
                have:=hm j hj (show hbit x2 j=true by rw [s3 j hj,if_neg hne];exact h1);change hbit y2 j=_ at this;rw [t3 j hj,if_neg hne] at this;exact this
              · have:=hm i c (show hbit x2 i=true by rw [s3 i c,if_pos rfl]);change hbit y2 i=_ at this;rw [t3 i c,if_pos rfl] at this;rw [← this];cases hbit q.bits i<;>simp
            · rintro ⟨hm,hd⟩ j hj h1;change hbit x2 j=true at h1;show hbit y2 j=hbit h j;rw [t3 j hj];by_cases e:j=i
              · rw [if_pos e,e];revert hd;cases hbit q.bits i<;>cases hbit h i<;>simp
              · rw [if_neg e];rw [s3 j hj,if_neg e] at h1;exact hm j hj h1
          have hA : AndI p q (i + 1) x2 y3 := ⟨s2, u2, fun j hj => by
              rw [s3 j hj];by_cases e:j=i
              · subst e;rw [if_pos rfl,c1'];simp
              · rw [if_neg e,hI.hx j hj,show decide (j<i+1)=decide (j<i) from decide_eq_decide.2 (by omega)],fun j hj=>by
              rw [u3 j hj];by_cases e:j=i
              · subst e;rw [if_pos rfl,c1',if_pos (by simp)]
              · rw [if_neg e,t3 j hj,if_neg e,hI.hy j hj,show decide (j<i+1)=decide (j<i) from decide_eq_decide.2 (by omega)],fun j hj h3 h4=>by
              by_cases e:j=i
              · rw [e,c2'] at h3;cases h3
              · exact hI.ok j (by omega) h3 h4⟩
          have hPs:yfw p q (i+1) (l++[⟨x2,y2⟩]):=by
            refine ⟨by rw [List.length_append,List.length_singleton];omega,fun r hr=>?_,fun r hr j hj h1=>?_,fun r hr=>?_,fun h hm hn=>?_,?_⟩
            · rcases List.mem_append.1 hr with h|h
              · exact hP.right r h
              · cases List.mem_singleton.1 h;exact hrp
            · rcases List.mem_append.1 hr with h|h
              · exact hP.mask r h j hj h1
              · cases List.mem_singleton.1 h;change hbit x2 j=true at h1;rw [s3 j hj] at h1;by_cases e:j=i
                · subst e;exact .inr c1'
                · rw [if_neg e,hI.hx j hj] at h1;rcases Bool.or_eq_true _ _ |>.mp h1 with h2|h2
                  · exact .inl h2
                  · simp only [Bool.and_eq_true] at h2;exact .inr h2.2
            · rcases List.mem_append.1 hr with h|h
              · obtain ⟨j,q1,q2,q3⟩:=hP.part r h;exact ⟨j,by omega,q2,q3⟩
              · cases List.mem_singleton.1 h;exact ⟨i,by omega,c1',hpart⟩
            · by_cases ag:z8p q i h
              · refine ⟨_,List.mem_append.2 (.inr (List.mem_singleton.2 rfl)),(hpart h).2 ⟨hm,ag,fun e=>hn fun j hj hmj=>?_⟩⟩;by_cases e2:j=i
                · rw [e2];exact e
                · exact ag j (by omega) hmj
              · obtain ⟨r,h3,h4⟩:=hP.all h hm ag;exact ⟨r,List.mem_append.2 (.inl h3),h4⟩
            · refine List.pairwise_append.2 ⟨hP.apart,List.pairwise_singleton _ _,fun r hr s hs h=>?_⟩;cases List.mem_singleton.1 hs;rintro ⟨h3,h4⟩;obtain ⟨j,q1,q2,q3⟩:=hP.part r hr;exact ((q3 h).1 h3).2.2 (((hpart h).1 h4).2.1 j q1 q2)
          have:=ih (i+1) x2 y3 _ (by omega) (by omega) hA (fun j hj=>hov j (by omega)) hPs;rw [List.length_append,List.length_singleton] at this;exact this
    · obtain rfl:i=160:=by omega
      rw [if_neg (by decide)];exact ⟨_,_,_,rfl,hP⟩
structure Diff (p q:Pat) (l:List Pat):Prop where
  len:l.length≤160
  right:∀ r,r∈l→zag r=true
  mask:∀ r,r∈l→∀ j,j<160→hbit r.mask j=true→hbit p.mask j=true∨hbit q.mask j=true
  heads:∀ h,(∃ r,r∈l∧zaq r h=true)↔zaq p h=true∧zaq q h=false
  apart:l.Pairwise fun r s=>∀ h,¬ (zaq r h=true∧zaq s h=true)
theorem ydo {q:Pat} {h:Ar 10}:z8p q 160 h↔zaq q h=true:=by
  rw [zar];exact ⟨fun a i hi hm=>(a i hi hm).symm,fun a i hi hm=>(a i hi hm).symm⟩
theorem yal {k:Nat} {p q:Pat} (hp:zag p=true) (hq:zag q=true) (hk:160<k):∃ l,zj6 k p q=some l∧Diff p q l:=by
  unfold zj6;rw [z2u hp hq hk,Option.bind_some]
  cases ho:zdk p q with
  |false =>
    rw [if_neg (by simp)];refine ⟨_,rfl,by simp,fun r hr=>by cases List.mem_singleton.1 hr;exact hp,fun r hr j hj h1=>by cases List.mem_singleton.1 hr;exact .inl h1,fun h=>?_,List.pairwise_singleton _ _⟩;constructor
    · rintro ⟨r,hr,hm⟩;cases List.mem_singleton.1 hr;refine ⟨hm,?_⟩
      cases hqm:zaq q h with
      |false=>rfl
      |true=>have:=zx8 hm hqm;rw [ho] at this;cases this
    · rintro ⟨hm,_⟩;exact ⟨p,List.mem_singleton.2 rfl,hm⟩
  |true =>
    obtain ⟨pm,pb,pw⟩:=zai.1 hp;rw [if_pos rfl];obtain ⟨x,y,l,e,hP⟩:=yf0 (k:=k) hp hq hk k 0 p.mask p.bits [] (by omega) (by omega) ⟨pm,pb,fun j hj=>by simp,fun j hj=>by simp,fun j hj=>by omega⟩ (fun j _ hj h1 h2=>zh1.1 ho j hj h1 h2) ⟨by simp,fun r hr=>by simp at hr,fun r hr=>by simp at hr,fun r hr=>by simp at hr,fun h hm hn=>absurd (fun j hj=>by omega) hn,List.Pairwise.nil⟩;rw [show ((0:Nat):Int)=0 from rfl] at e;rw [show (([]:List Pat).length)=0 from rfl] at e;rw [e,Option.bind_some,if_pos rfl];refine ⟨l,rfl,hP.len,hP.right,hP.mask,fun h=>?_,hP.apart⟩;constructor
    · rintro ⟨r,hr,hm⟩;obtain ⟨j,q1,q2,q3⟩:=hP.part r hr;obtain ⟨k1,k2,k3⟩:=(q3 h).1 hm;refine ⟨k1,?_⟩
      cases hqm:zaq q h with
      |false=>rfl
      |true=>exact absurd (zar.1 hqm j q1 q2).symm k3
    · rintro ⟨hm,hn⟩;exact hP.all h hm fun a=>by rw [ydo.1 a] at hn;cases hn
end
section
open Go Go.RowKit
theorem yea {α:Type} (e:α) (f:Nat→α):rngF [] e f=e:=rfl
theorem yab {α:Type} (x:Nat) (r:List Nat) (e:α) (f:Nat→α):rngF (x :: r) e f=f x:=rfl
theorem z3d {α:Type} (g:α→Bool) {l:List α} {i:Nat} (h:i<l.length):(l.take (i+1)).filter g=(l.take i).filter g++(if g l[i]=true then [l[i]] else []):=by
  rw [List.take_add_one,List.getElem?_eq_getElem h,Option.toList_some,List.filter_append];cases hg:g l[i]<;>simp [hg]
def ymz (p:Pat) (l:List Pat) (o:(Ar 10×Bool) ⊕ (Int×List Pat×Nat)):Prop :=
  (o=.inl (zA 10,false)∧∃ q,q∈l∧zdk p q=true∧∀ i,i<160→zhf q p i=false) ∨
  ∃ a:Nat,o=.inr ((a:Int),l.filter (zdk p),(l.filter (zdk p)).length)∧(∀ q,q∈l.filter (zdk p)→∀ i,i<a→zhf q p i=false)∧(l.filter (zdk p)≠[]→a<160∧∃ q,q∈l.filter (zdk p)∧zhf q p a=true)
theorem z9u {k:Nat} {p:Pat} {l:List Pat} (hp:zag p=true) (hl:∀ q,q∈l→zag q=true) (hlen:l.length≤1000) (hk:big≤k):∃ o,zau k p l k 160 0 [] 0=some o∧ymz p l o:=by
  have key : ∀ m i (a : Nat), i ≤ l.length → l.length - i < m → a ≤ 160 → (∀ q, q ∈ (l.take i).filter (zdk p) → ∀ j, j < a → zhf q p j = false) → ((l.take i).filter (zdk p) = [] → a = 160) → ((l.take i).filter (zdk p) ≠ [] → a < 160 ∧ ∃ q, q ∈ (l.take i).filter (zdk p) ∧ zhf q p a = true) →
      ∃ o,zau k p l m (a:Int) (i:Int) ((l.take i).filter (zdk p)) ((l.take i).filter (zdk p)).length=some o∧ymz p l o:=by
    intro m
    induction m with
    |zero=>intro i a h1 h2;omega
    |succ m ih =>
      intro i a h1 h2 ha hI hE hN;rw [zau];by_cases c:i<l.length
      · have hq:=hl _ (List.getElem_mem c);have hn:((l.take i).filter (zdk p)).length≤1000:=Nat.le_trans (List.length_filter_le _ _) (by rw [List.length_take];omega);have hf:=z3d (zdk p) c;rw [if_pos (zam c),if_pos ⟨by omega,zam c⟩,zea c,zqu hp hq (by simp only [big] at hk;omega),Option.bind_some,zbm i (by omega)]
        cases ho:zdk p l[i] with
        |false =>
          rw [if_neg (by simp)];rw [ho,if_neg (by simp),List.append_nil] at hf;have:=ih (i+1) a (by omega) (by omega) ha;rw [hf] at this;exact this hI hE hN
        |true =>
          rw [ho,if_pos rfl] at hf;rw [if_pos rfl,if_pos (by omega),if_pos (ybe (zai.1 hq).1),if_pos (ybe (zai.1 hp).1)];rcases z7u (zai.1 hq).1 (zai.1 hp).1 with ⟨e1,e2⟩|⟨x,r,e1,e2,e3,e4⟩
          · rw [e1,yea,if_pos (by decide)];exact ⟨_,rfl,.inl ⟨rfl,_,List.getElem_mem c,ho,e2⟩⟩
          · rw [e1,yab,if_neg (by omega),show min (a:Int) (x:Int)=((min a x:Nat):Int) by omega];have:=ih (i+1) (min a x) (by omega) (by omega) (by omega);rw [hf,List.length_append,List.length_singleton] at this;refine this (fun q hq j hj=>?_) (fun h=>by simp at h) (fun _=>⟨by omega,?_⟩)
            · rcases List.mem_append.1 hq with h|h
              · exact hI q h j (by omega)
              · cases List.mem_singleton.1 h;exact e4 j (by omega)
            · by_cases cx:x≤a
              · exact ⟨_,List.mem_append.2 (.inr (List.mem_singleton.2 rfl)),by rw [Nat.min_eq_right cx];exact e3⟩
              · rw [Nat.min_eq_left (by omega)];have hne:(l.take i).filter (zdk p)≠[]:=fun h=>by have:=hE h;omega
                obtain ⟨_,q,h3,h4⟩:=hN hne;exact ⟨q,List.mem_append.2 (.inl h3),h4⟩
      · obtain rfl:i=l.length:=by omega
        rw [if_neg (by omega)];rw [List.take_length] at hI hN ⊢;exact ⟨_,rfl,.inr ⟨a,rfl,hI,hN⟩⟩
  exact key k 0 160 (Nat.zero_le _) (by simp only [big] at hk;omega) (Nat.le_refl _) (fun q hq=>by simp at hq) (fun _=>rfl) (fun h=>absurd rfl h)
theorem z9t {k:Nat} (hk:big≤k):∀ (m c:Nat) (p:Pat) (l:List Pat),c≤160→161 - c≤m→zag p=true→(∀ q,q∈l→zag q=true)→l.length≤1000→(∀ q,q∈l→∀ i,i<c→zhf q p i=false)→∃ r,zbt k m p l=some r∧Res p l r:=by
  intro m
  induction m with
  |zero=>intro c p l h1 h2;omega
  |succ m ih =>
    intro c p l h1 h2 hp hl hlen hc;rw [zbt];obtain ⟨o,e,hF⟩:=z9u hp hl hlen hk;rw [e,Option.bind_some];rcases hF with ⟨rfl,q,hq,ho,hn⟩|⟨a,rfl,hI,hN⟩
    · refine ⟨_,rfl,.inr ⟨rfl,fun h hO=>?_⟩⟩
      have:zaq q h=true:=zar.2 fun i hi hm=>by
        have hop:=hn i hi;unfold zhf at hop;rw [hm] at hop;have hpm:hbit p.mask i=true:=by simpa using hop
        rw [← zar.1 hO.into i hi hpm];exact (zh1.1 ho i hi hpm hm).symm
      rw [hO.no q hq] at this;cases this
    · rw [Sum.elim_inr];have hnl:(l.filter (zdk p)).length≤1000:=Nat.le_trans (List.length_filter_le _ _) hlen;have hnr:∀ q,q∈l.filter (zdk p)→zag q=true:=fun q hq=>hl q (List.mem_filter.1 hq).1;by_cases hz:l.filter (zdk p)=[]
      · rw [if_pos (show (((l.filter (zdk p)).length:Nat):Int)=0 by rw [hz];rfl)];unfold zkv;refine ⟨_,rfl,.inl ⟨rfl,zv3 hp fun q hq=>?_⟩⟩
        cases ho:zdk p q with
        |false=>rfl
        |true=>have:q∈l.filter (zdk p):=List.mem_filter.2 ⟨hq,ho⟩;rw [hz] at this;cases this
      · obtain ⟨a160,q0,hq0,hop⟩:=hN hz;have hpa:hbit p.mask a=false:=by unfold zhf at hop;simp at hop;exact hop.2
        have hca:c≤a:=by
          apply Nat.le_of_not_lt;intro hlt;have:=hc q0 (List.mem_filter.1 hq0).1 a hlt;rw [hop] at this;cases this
        have hlen0:¬ ((l.filter (zdk p)).length:Int)=0:=by
          intro h;exact hz (List.eq_nil_of_length_eq_zero (by omega))
        rw [if_neg hlen0];obtain ⟨p0,f0,F0⟩:=z65 (k:=k) (b:=false) hp a160;obtain ⟨p1,f1,F1⟩:=z65 (k:=k) (b:=true) hp a160;have f0':zh0 k p (a:Int) 0=some p0:=f0;have f1':zh0 k p (a:Int) 1=some p1:=f1
        have next:∀ {b:Bool} {r:Pat},zw3 p a b r→∀ q,q∈l.filter (zdk p)→∀ i,i<a+1→zhf q r i=false:=fun {b r} hF q hq i hi=>by
          unfold zhf;rw [hF.hm i (by omega)];by_cases e:i=a
          · simp [e]
          · have:=hI q hq i (by omega);unfold zhf at this;rw [decide_eq_false e,Bool.false_or];exact this
        obtain ⟨r0,e0,R0⟩:=ih (a+1) p0 _ (by omega) (by omega) (z1b hp F0) hnr hnl (next F0);rw [f0',Option.bind_some,if_pos rfl,e0,Option.bind_some]
        cases hb:r0.2 with
        |true =>
          rw [if_pos rfl];refine ⟨_,rfl,?_⟩;have:=Res.join (r1:=r0) a160 hpa F0 F1 hI R0 (fun h=>by rw [hb] at h;cases h);rw [hb,if_pos rfl] at this;rcases this with ⟨x,y⟩|⟨x,y⟩
          · exact .inl ⟨x,⟨Out.near.2 y.out,fun h' ho'=>y.least h' (Out.near.1 ho')⟩⟩
          · exact .inr ⟨x,fun h ho'=>y h (Out.near.1 ho')⟩
        |false =>
          obtain ⟨r1,e1,R1⟩:=ih (a+1) p1 _ (by omega) (by omega) (z1b hp F1) hnr hnl (next F1);rw [if_neg (by simp),f1',Option.bind_some,e1,Option.bind_some];refine ⟨_,rfl,?_⟩;have:=Res.join a160 hpa F0 F1 hI R0 (fun _=>R1);rw [hb,if_neg (by simp)] at this;rcases this with ⟨x,y⟩|⟨x,y⟩
          · exact .inl ⟨x,⟨Out.near.2 y.out,fun h' ho'=>y.least h' (Out.near.1 ho')⟩⟩
          · exact .inr ⟨x,fun h ho'=>y h (Out.near.1 ho')⟩
theorem z12 {k:Nat} (hk:big≤k) {p:Pat} {l:List Pat} (hp:zag p=true) (hl:∀ q,q∈l→zag q=true) (hlen:l.length≤1000):∃ r,zds k p l=some r∧Res p l r:=by
  obtain ⟨r,e,R⟩:=z9t hk k 0 p l (by omega) (by simp only [big] at hk;omega) hp hl hlen (fun q hq i hi=>by omega);refine ⟨r,?_,R⟩;unfold zds zhp;rw [e];rfl
end
section
open Go Go.RowKit
theorem zpq {α:Type} (f:α→Bool):∀ l:List α,(l.filter f).length+(l.filter fun x=>!f x).length=l.length
  |[]=>rfl
  |x :: l=>by
    have:=zpq f l;cases h:f x<;>simp [h]<;>omega
theorem z1o {α:Type} (b:α→Nat→Bool):∀ (F:List Nat) (L:List α),L.Pairwise (fun r s=>∃ j,j∈F∧b r j≠b s j)→L.length≤2 ^ F.length
  |[],[],_=>by simp
  |[],[x],_=>by simp
  |[],x :: y :: l,h=>by
    obtain ⟨j,hj,_⟩:=(List.pairwise_cons.1 h).1 y (.head _)
    cases hj
  |f :: F,L,h=>by
    have key:∀ g:α→Bool,(∀ x y,g x=true→g y=true→b x f=b y f)→(L.filter g).length≤2 ^ F.length:=fun g hg=>by
      refine z1o b F _ ?_;rw [List.pairwise_filter];refine h.imp ?_;intro x y hxy gx gy;obtain ⟨j,hj,hd⟩:=hxy;rcases List.mem_cons.1 hj with e|e
      · subst e;exact absurd (hg x y gx gy) hd
      · exact ⟨j,e,hd⟩
    have h1:=key (fun x=>b x f) (fun x y hx hy=>by rw [hx,hy])
    have h2:=key (fun x=>!b x f) (fun x y hx hy=>by
      have hx':b x f=false:=by simpa using hx
      have hy':b y f=false:=by simpa using hy
      rw [hx',hy'])
    have:=zpq (fun x=>b x f) L;rw [List.length_cons,Nat.pow_succ];omega
structure zus (F:List Nat) (L:List Pat):Prop where
  right:∀ r,r∈L→zag r=true
  mask:∀ r,r∈L→∀ j,j<160→hbit r.mask j=true→j∈F
  apart:L.Pairwise fun r s=>∀ h,¬ (zaq r h=true∧zaq s h=true)
theorem zus.few {F:List Nat} {L:List Pat} (h:zus F L) (hF:F.length≤12):L.length≤4096:=by
  refine Nat.le_trans (z1o (fun r j=>hbit r.bits j) F L ?_) (Nat.pow_le_pow_right (n:=2) (by decide) hF);refine h.apart.imp_of_mem ?_;intro r s hr hs hd;refine Classical.byContradiction fun hn=>hd r.bits ⟨zar.2 fun i _ _=>rfl,zar.2 fun i hi hm=>?_⟩;refine Classical.byContradiction fun hne=>hn ⟨i,h.mask s hs i hi hm,fun e=>hne e.symm⟩
def zln (L:List Pat) (h:Ar 10):Prop:=∃ r,r∈L∧zaq r h=true
theorem zqm {a b:List Pat} {h:Ar 10}:zln (a++b) h↔zln a h∨zln b h:=by
  unfold zln;constructor
  · rintro ⟨r,hr,hm⟩;rcases List.mem_append.1 hr with q|q
    · exact .inl ⟨r,q,hm⟩
    · exact .inr ⟨r,q,hm⟩
  · rintro (⟨r,hr,hm⟩|⟨r,hr,hm⟩)
    · exact ⟨r,List.mem_append.2 (.inl hr),hm⟩
    · exact ⟨r,List.mem_append.2 (.inr hr),hm⟩
theorem zx2 {k:Nat} {F:List Nat} (hF:F.length≤12) {L:List Pat} {q:Pat} (hL:zus F L) (hq:zag q=true) (hqF:∀ j,j<160→hbit q.mask j=true→j∈F) (hk:big≤k) :
    ∃ L',zf9 k L q=some L'∧zus F L'∧∀ h,zln L' h↔zln L h∧zaq q h=false:=by
  have hk160:160<k:=Nat.lt_of_lt_of_le (by decide) hk;have hfew:=hL.few hF
  have key:∀ m i l2,i≤L.length→L.length - i<m→zus F l2→(∀ h,zln l2 h↔zln (L.take i) h∧zaq q h=false)→∃ L',zbu k L q m (i:Int) l2 l2.length=some (L',L'.length)∧zus F L'∧∀ h,zln L' h↔zln L h∧zaq q h=false:=by
    intro m
    induction m with
    |zero=>intro i l2 h1 h2;omega
    |succ m ih =>
      intro i l2 h1 h2 hA hH;rw [zbu];by_cases c:i<L.length
      · have hmem:=List.getElem_mem c;obtain ⟨D,e,hD⟩:=yal (k:=k) (hL.right _ hmem) hq hk160;rw [if_pos (zam c),if_pos ⟨by omega,zam c⟩,zea c,e,Option.bind_some,zbm i (by omega)];have hsplit:L=L.take i++L[i] :: L.drop (i+1):=by rw [← List.drop_eq_getElem_cons c,List.take_append_drop]
        have hcross:∀ r,r∈L.take i→∀ h,¬ (zaq r h=true∧zaq L[i] h=true):=by
          have:=hL.apart;rw [hsplit] at this;intro r hr;exact (List.pairwise_append.1 this).2.2 r hr _ (.head _)
        have hA2:zus F (l2++D):=by
          refine ⟨fun r hr=>?_,fun r hr j hj hm=>?_,List.pairwise_append.2 ⟨hA.apart,hD.apart,fun r hr s hs h=>?_⟩⟩
          · rcases List.mem_append.1 hr with x|x
            · exact hA.right r x
            · exact hD.right r x
          · rcases List.mem_append.1 hr with x|x
            · exact hA.mask r x j hj hm
            · rcases hD.mask r x j hj hm with y|y
              · exact hL.mask _ hmem j hj y
              · exact hqF j hj y
          · rintro ⟨x,y⟩;obtain ⟨⟨r',z1,z2⟩,_⟩:=(hH h).1 ⟨r,hr,x⟩;have:=((hD.heads h).1 ⟨s,hs,y⟩).1;exact hcross r' z1 h ⟨z2,this⟩
        have hH2:∀ h,zln (l2++D) h↔zln (L.take (i+1)) h∧zaq q h=false:=fun h=>by
          rw [zqm,List.take_add_one,List.getElem?_eq_getElem c,Option.toList_some,zqm,hH h];have e1:zln D h↔zaq L[i] h=true∧zaq q h=false:=hD.heads h;have e2:zln [L[i]] h↔zaq L[i] h=true:=⟨fun ⟨r,hr,hm⟩=>by cases List.mem_singleton.1 hr;exact hm,fun hm=>⟨_,List.mem_singleton.2 rfl,hm⟩⟩;rw [e1,e2];constructor
          · rintro (⟨a,b⟩|⟨a,b⟩)
            · exact ⟨.inl a,b⟩
            · exact ⟨.inr a,b⟩
          · rintro ⟨a|a,b⟩
            · exact .inl ⟨a,b⟩
            · exact .inr ⟨a,b⟩
        have hfew2:=hA2.few hF;rw [List.length_append] at hfew2;rw [if_pos (by omega)];have:=ih (i+1) (l2++D) (by omega) (by omega) hA2 hH2;by_cases cz:D.length=0
        · rw [if_pos cz];have ez:=List.eq_nil_of_length_eq_zero cz;rw [ez,List.append_nil] at this;exact this
        · rw [if_neg cz];rw [List.length_append] at this;exact this
      · obtain rfl:i=L.length:=by omega
        rw [if_neg (by omega)];rw [List.take_length] at hH;exact ⟨l2,rfl,hA,hH⟩
  obtain ⟨L',e,h1,h2⟩:=key k 0 [] (Nat.zero_le _) (by simp only [big] at hk;omega) ⟨fun r hr=>by simp at hr,fun r hr=>by simp at hr,List.Pairwise.nil⟩ (fun h=>⟨fun ⟨r,hr,_⟩=>by simp at hr,fun ⟨⟨r,hr,_⟩,_⟩=>by simp at hr⟩);refine ⟨L',?_,h1,h2⟩;unfold zf9;rw [show ((0:Nat):Int)=0 from rfl,show (([]:List Pat).length)=0 from rfl] at e;rw [e,Option.bind_some,if_pos rfl]
theorem yjw {k:Nat} {F:List Nat} (hF:F.length≤12) {p:Pat} {l:List Pat} (hp:zag p=true) (hpF:∀ j,j<160→hbit p.mask j=true→j∈F) (hl:∀ q,q∈l→zag q=true) (hlF:∀ q,q∈l→∀ j,j<160→hbit q.mask j=true→j∈F) (hlen:l.length≤1000) (hk:big≤k) :
    ∃ L,zcr k l k [p] 0=some L∧zus F L∧∀ h,zln L h↔zaq p h=true∧∀ q,q∈l→zaq q h=false:=by
  have key:∀ m i L,i≤l.length→l.length - i<m→zus F L→(∀ h,zln L h↔zaq p h=true∧∀ q,q∈l.take i→zaq q h=false)→∃ L',zcr k l m L (i:Int)=some L'∧zus F L'∧∀ h,zln L' h↔zaq p h=true∧∀ q,q∈l→zaq q h=false:=by
    intro m
    induction m with
    |zero=>intro i L h1 h2;omega
    |succ m ih =>
      intro i L h1 h2 hA hH;rw [zcr];by_cases c:i<l.length
      · have hmem:=List.getElem_mem c;obtain ⟨L',e,hA',hH'⟩:=zx2 hF hA (hl _ hmem) (hlF _ hmem) hk;rw [if_pos (zam c),if_pos ⟨by omega,zam c⟩,zea c,e,Option.bind_some,zbm i (by omega)];refine ih (i+1) L' (by omega) (by omega) hA' fun h=>?_;rw [hH',hH,List.take_add_one,List.getElem?_eq_getElem c,Option.toList_some];constructor
        · rintro ⟨⟨a,b⟩,d⟩;refine ⟨a,fun q hq=>?_⟩;rcases List.mem_append.1 hq with x|x
          · exact b q x
          · cases List.mem_singleton.1 x;exact d
        · rintro ⟨a,b⟩;exact ⟨⟨a,fun q hq=>b q (List.mem_append.2 (.inl hq))⟩,b _ (List.mem_append.2 (.inr (List.mem_singleton.2 rfl)))⟩
      · obtain rfl:i=l.length:=by omega
        rw [if_neg (by omega)];rw [List.take_length] at hH;exact ⟨L,rfl,hA,hH⟩
  refine key k 0 [p] (Nat.zero_le _) (by simp only [big] at hk;omega) ⟨fun r hr=>by cases List.mem_singleton.1 hr;exact hp,fun r hr=>by cases List.mem_singleton.1 hr;exact hpF,List.pairwise_singleton _ _⟩ fun h=>?_;constructor
  · rintro ⟨r,hr,hm⟩;cases List.mem_singleton.1 hr;exact ⟨hm,fun q hq=>by simp at hq⟩
  · rintro ⟨hm,_⟩;exact ⟨p,List.mem_singleton.2 rfl,hm⟩
theorem yjq {k:Nat} {L:List Pat} (hL:∀ r,r∈L→zag r=true) (h0:0<L.length) (hlen:L.length≤4096) (hk:big≤k):∃ x,zb0 k L k 1 ((gx L 0).bits)=some x∧(∃ r,r∈L∧r.bits=x)∧∀ r,r∈L→¬ ltH r.bits x:=by
  have key:∀ m i (x:Ar 10),i≤L.length→L.length - i<m→(∃ r,r∈L∧r.bits=x)→(∀ r,r∈L.take i→¬ ltH r.bits x)→∃ y,zb0 k L m (i:Int) x=some y∧(∃ r,r∈L∧r.bits=y)∧∀ r,r∈L→¬ ltH r.bits y:=by
    intro m
    induction m with
    |zero=>intro i x h1 h2;omega
    |succ m ih =>
      intro i x h1 h2 hx hm;rw [zb0];by_cases c:i<L.length
      · have hmem:=List.getElem_mem c;obtain ⟨r0,hr0,e0⟩:=hx;have rx:zab x=true:=by rw [← e0];exact (zai.1 (hL _ hr0)).2.1
        have ri:=(zai.1 (hL _ hmem)).2.1;obtain ⟨cc,e,hc⟩:=zlf (k:=k) ri rx (by simp only [big] at hk;omega);rw [if_pos (zam c),if_pos ⟨by omega,zam c⟩,zea c,e,Option.bind_some,zbm i (by omega)];by_cases c2:cc<0
        · rw [if_pos c2];have hlt:=hc.neg.1 c2;refine ih (i+1) _ (by omega) (by omega) ⟨_,hmem,rfl⟩ fun r hr=>?_;rw [List.take_add_one,List.getElem?_eq_getElem c,Option.toList_some] at hr;rcases List.mem_append.1 hr with z|z
          · exact fun q=>hm r z (zom q hlt)
          · cases List.mem_singleton.1 z;exact zms
        · rw [if_neg c2];refine ih (i+1) x (by omega) (by omega) ⟨r0,hr0,e0⟩ fun r hr=>?_;rw [List.take_add_one,List.getElem?_eq_getElem c,Option.toList_some] at hr;rcases List.mem_append.1 hr with z|z
          · exact hm r z
          · cases List.mem_singleton.1 z;exact fun q=>c2 (hc.neg.2 q)
      · obtain rfl:i=L.length:=by omega
        rw [if_neg (by omega)];rw [List.take_length] at hm;exact ⟨x,rfl,hx,hm⟩
  have hg:gx L 0=L[0]:=zea (i:=0) h0
  have:=key k 1 ((gx L 0).bits) (by omega) (by simp only [big] at hk;omega) ⟨_,List.getElem_mem h0,by rw [hg]⟩ fun r hr=>by
    rw [List.take_add_one,List.take_zero,List.nil_append,List.getElem?_eq_getElem h0,Option.toList_some] at hr;cases List.mem_singleton.1 hr;rw [hg];exact zms
  exact this
theorem z2v {k:Nat} {F:List Nat} (hF:F.length≤12) {p:Pat} {l:List Pat} (hp:zag p=true) (hpF:∀ j,j<160→hbit p.mask j=true→j∈F) (hl:∀ q,q∈l→zag q=true) (hlF:∀ q,q∈l→∀ j,j<160→hbit q.mask j=true→j∈F) (hlen:l.length≤1000) (hk:big≤k) :
    ∃ r,zfg k p l=some r∧Res p l r:=by
  obtain ⟨L,e,hA,hH⟩:=yjw hF hp hpF hl hlF hlen hk;have hfew:=hA.few hF;unfold zfg;rw [e,Option.bind_some];have hout:∀ h,Out p l h→zln L h:=fun h ho=>(hH h).2 ⟨ho.into,ho.no⟩;by_cases c:(L.length:Int)=0
  · rw [if_pos c];have ez:=List.eq_nil_of_length_eq_zero (by omega:L.length=0);refine ⟨_,rfl,.inr ⟨rfl,fun h ho=>?_⟩⟩;obtain ⟨r,hr,_⟩:=hout h ho;rw [ez] at hr;cases hr
  · rw [if_neg c,if_pos ⟨by omega,by omega⟩];obtain ⟨x,e2,⟨r,hr,hrx⟩,hm⟩:=yjq (k:=k) hA.right (by omega) hfew hk;rw [e2,Option.bind_some];refine ⟨_,rfl,.inl ⟨rfl,⟨?_,fun h' ho=>?_⟩⟩⟩
    · have hx:=(hH x).1 ⟨r,hr,by rw [← hrx];exact zar.2 fun i _ _=>rfl⟩;exact ⟨by rw [← hrx];exact (zai.1 (hA.right r hr)).2.1,hx.1,hx.2⟩
    · obtain ⟨s,hs,hsm⟩:=hout h' ho;have hsr:=hA.right s hs;have hls:=(zv3 (l:=[]) hsr (fun q hq=>by cases hq)).least h' ⟨ho.right,hsm,fun q hq=>by cases hq⟩;have hms:=hm s hs;have rx:zab x=true:=by rw [← hrx];exact (zai.1 (hA.right r hr)).2.1
      rcases zrg (zai.1 hsr).2.1 rx with q|q|q
      · rw [← q];exact hls
      · exact absurd q hms
      · exact fun z=>hls (zom z q)
end
section
open Go Go.RowKit
set_option maxRecDepth 100000
def zbf (k:Nat) (t:List Rule) (k_:Int):Nat→Int→(List Pat)→Option (List Pat)
 |0,_,_=>none
 |m+1,i,l=>(if i<(k_.toNat:Int) then (if (0:Int)≤i∧i<(t.length:Int) then (if (0:Int)≤i∧i<(k_.toNat:Int) then (if i.toNat<l.length then zbf k t k_ m (IntKind.i64.wrap (i+1)) (l.set i.toNat ((gx t i).mat)) else none) else none) else none) else some l)
def zci (k:Nat) (t:List Rule) (k_:Int):Option (List Pat):=(if (0:Int)≤k_∧k_.toNat*161≤1000000000 then ((zbf k t k_ k 0 (List.replicate k_.toNat (⟨(zA 10),(zA 10)⟩:Pat)):Option (List Pat)).bind fun s_=>(if s_.length=k_.toNat then some s_ else none)) else none)
set_option maxHeartbeats 8000000 in
theorem zhc (ax:Axs) (hx:zbx ax) (k:Nat) (t:List Rule) (k_:Int) (v:List Pat) (H:zci k t k_=some v):Pure Tryz.prog (EE ax) [] 68 [zao t,.int .i64 k_] (lPat v):=by
 rw [zci] at H;refine en [.tmp 4] 24 [0,1] (hx.no _ (by decide)) (fn68 ax) ?_;intro h hh;repeat apply TW.seq
 refine rk [0,1] [] hh ?_;clear hh h;intro h hh;obtain ⟨g1,H⟩:=isg H;repeat apply TW.seq
 refine rk [0,5] [] (f3 hh (z4t (k_.toNat)) (f2 ((show (vecC ePat (List.replicate k_.toNat (⟨(zA 10),(zA 10)⟩:Pat))).length=k_.toNat*20 from by rw [zc7 (fun x=>zbb x),List.length_replicate])) (zoz ax))) ?_;clear hh h;intro h hh;repeat apply TW.seq
 refine rk [0,5,10,11] [] (f2 hh (ziw ax)) ?_;clear hh h;intro h hh;obtain ⟨s_,H1,H⟩:=zad H;repeat apply TW.seq
 refine cu [5] 1 (fun h bs=>(h 5=.arr 0 20 0 k_.toNat k_.toNat (k_.toNat*20))∧bs=[.cells true (k_.toNat*20) (vecC ePat s_)]) ?_ ?_
 ·skip;repeat apply TW.seq
  apply TW.block;repeat apply TW.seq
  refine TW.loopT [0,5,10,11] (fun m h bs=>∃ (i:Int) (l:List Pat),zbf k t k_ m i l=some s_∧(h 0=zao t∧h 5=.arr 0 20 0 k_.toNat k_.toNat (k_.toNat*20)∧h 10=.int .i64 (k_.toNat:Int)∧h 11=.int .i64 i)∧bs=[.cells true (k_.toNat*20) (vecC ePat l)]) ?_ k _ _ ?_;rotate_left
  ·exact ⟨0,(List.replicate k_.toNat (⟨(zA 10),(zA 10)⟩:Pat)),H1,kq hh,rfl⟩
  clear hh h H1;rintro m h bs ⟨i,l,H1,hh,rfl⟩;rcases m with _|m
  ·rw [zbf] at H1;cases H1
  rw [zbf] at H1;repeat apply TW.seq
  refine rk [0,5,10,11,12] [] hh ?_;clear hh h;intro h hh;rcases isp H1 with ⟨c2,H1⟩|⟨c2,H1⟩;rotate_left
  ·skip;repeat apply TW.seq
   refine cf (f2 hh (decide_eq_false c2)) ?_;refine xk ?_;cases H1;exact ce hh ⟨kq hh,rfl⟩
  repeat apply TW.seq
  refine ct (f2 hh (decide_eq_true c2)) ?_;repeat apply TW.seq
  refine sk ?_;repeat apply TW.seq
  apply TW.block;repeat apply TW.seq
  refine rk [0,5,6,10,11] [] hh ?_;clear hh h;intro h hh;obtain ⟨g3,H1⟩:=isg H1;obtain ⟨g4,H1⟩:=isg H1;obtain ⟨g5,H1⟩:=isg H1;repeat apply TW.seq
  refine rk [0,5,10,11] [] (f3 hh (zal g3) (f3 (show spl (vecC ePat l) (i.toNat*20) ((((gx t i).mat).mask).l.map (T.int .i64)++((((gx t i).mat).bits).l.map (T.int .i64)))=_ from z31 ePat 20 ((gx t i).mat) (fun x=>zbb x) g5) (ziw ax) (z7e ax))) ?_;clear hh h;intro h hh;repeat apply TW.seq
  refine rk [0,5,10,11] [] hh ?_;clear hh h;intro h hh;exact rd m hh ⟨(IntKind.i64.wrap (i+1)),(l.set i.toNat ((gx t i).mat)),H1,kq hh,rfl⟩
 clear hh h;rintro h bs ⟨hh,rfl⟩;repeat apply TW.seq
 refine rk [4] [] hh ?_;clear hh h;intro h hh;obtain ⟨g6,H⟩:=isg H;refine TW.freeze 4 (b:=0) (e:=20) (off:=0) (len:=k_.toNat) (cap:=k_.toNat) (M:=(k_.toNat*20)) (s_.map ePat) (kq hh) (by rfl) (by omega) (by omega) (by rw [List.drop_zero];exact zf7 (fun x=>zbb x) g6) (fun t ht=>by obtain ⟨x,_,rfl⟩:=List.mem_map.1 ht;first|rfl|exact zi8 _|exact zbb _|exact zg7 _|exact zba _ | (rw [List.length_map];rfl)) (by rw [List.length_map];exact g6) (by omega) ?_;rw [zhy _ _ _ (by simp only [lzA]<;>omega)];simp only [scA];refine gk [4] hh ?_;clear hh h;intro h hh;cases H;exact rt hh
def zuf (k:Nat) (t:List Rule) (k_:Int):Option (Ar 10×Bool):=(((if k_<0 then some true else some (decide ((t.length:Int)≤k_))):Option Bool).bind fun s_=>(if s_=true then some ((zA 10),false) else (if (0:Int)≤k_∧k_<(t.length:Int) then ((zci k t k_).bind fun rbefore=>((zds k ((gx t k_).mat) rbefore).bind fun rOutside=>some (rOutside.1,rOutside.2))) else none)))
end
section
open Go Go.RowKit
def bef (t:List Rule) (i:Nat):List Pat:=(t.take i).map fun r=>r.mat
theorem zjb {t:List Rule} {i:Nat} (hi:i≤t.length):(bef t i).length=i:=by unfold bef;rw [List.length_map,List.length_take];omega
theorem zrv {t:List Rule} {i:Nat} (hi:i<t.length):bef t (i+1)=bef t i++[t[i].mat]:=by
  unfold bef;rw [List.take_add_one,List.getElem?_eq_getElem hi,Option.toList_some,List.map_append];rfl
theorem zzc {k:Nat} (t:List Rule) (n:Nat) (hn:n≤t.length) (ht:t.length≤5000) (hk:big≤k):zci k t (n:Int)=some (bef t n):=by
  have key:∀ m j,j≤n→n - j<m→zbf k t (n:Int) m (j:Int) (bef t j++List.replicate (n - j) (⟨zA 10,zA 10⟩:Pat))=some (bef t n):=by
    intro m
    induction m with
    |zero=>intro j h1 h2;omega
    |succ m ih =>
      intro j h1 h2;rw [zbf];have hl:=zjb (t:=t) (i:=j) (by omega);by_cases c:j<n
      · have ct:j<t.length:=by omega
        rw [if_pos (by omega),if_pos ⟨by omega,by omega⟩,if_pos ⟨by omega,by omega⟩,if_pos (by rw [List.length_append,List.length_replicate,hl];omega),zea ct,zbm j (by omega)];have:=ih (j+1) (by omega) (by omega);rw [zrv ct] at this;rw [show ((j:Int)).toNat=j by omega,List.set_append_right _ _ (by omega),hl,Nat.sub_self,show n - j=(n - (j+1))+1 by omega,List.replicate_succ,List.set_cons_zero];rw [List.append_assoc] at this;exact this
      · obtain rfl:j=n:=by omega
        rw [if_neg (by omega),Nat.sub_self,List.replicate_zero,List.append_nil]
  have:=key k 0 (Nat.zero_le _) (by simp only [big] at hk;omega);unfold zci;rw [if_pos ⟨by omega,by omega⟩];rw [show ((0:Nat):Int)=0 from rfl,show bef t 0=[] from rfl,List.nil_append,Nat.sub_zero] at this;rw [show ((n:Int)).toNat=n by omega,this,Option.bind_some,if_pos (zjb hn)]
theorem zvn {k:Nat} (t:List Rule) (n:Nat) (hn:n≤t.length) (ht:t.length≤5000) (hk:big≤k):zhk k t (n:Int)=some (bef t n):=by
  have key:∀ m j,j≤n→n - j<m→zdv k t (n:Int) m (j:Int) (bef t j) (bef t j).length=some (bef t n,(bef t n).length):=by
    intro m
    induction m with
    |zero=>intro j h1 h2;omega
    |succ m ih =>
      intro j h1 h2;rw [zdv];by_cases c:j<n
      · have ct:j<t.length:=by omega
        have hl:=zjb (t:=t) (i:=j) (by omega);rw [if_pos (by omega),if_pos ⟨by omega,by omega⟩,if_pos (by omega),zea ct,zbm j (by omega)];have:=ih (j+1) (by omega) (by omega);rw [zrv ct,List.length_append,List.length_singleton] at this;exact this
      · obtain rfl:j=n:=by omega
        rw [if_neg (by omega)]
  have:=key k 0 (Nat.zero_le _) (by simp only [big] at hk;omega);unfold zhk;rw [show ((0:Nat):Int)=0 from rfl,show bef t 0=[] from rfl,show (([]:List Pat).length)=0 from rfl] at this;rw [this,Option.bind_some,if_pos rfl]
structure Lit (t:List Rule) (F:List Nat):Prop where
  len:t.length≤1000
  right:∀ r,r∈t→zag r.mat=true
  few:F.length≤12
  mask:∀ r,r∈t→∀ j,j<160→hbit r.mat.mask j=true→j∈F
theorem z21 {t:List Rule} {i:Nat} {q:Pat} (h:q∈bef t i):∃ r,r∈t∧r.mat=q:=by
  unfold bef at h;obtain ⟨r,hr,rfl⟩:=List.mem_map.1 h;exact ⟨r,List.mem_of_mem_take hr,rfl⟩
end
section
open Go Go.RowKit
theorem zz2 {k:Nat} (l:List Pat) (hl:l.length≤1000) (hk:big≤k):zgz k l=some (l.all zag):=by
  unfold zgz
  rw [zon (L:=zca k l) l false zag (by simp only [big];omega) (fun m j h=>by
    rw [zca,if_pos (zam h),if_pos ⟨by omega,zam h⟩,zea h,zsu _ (by simp only [big] at hk;omega),Option.bind_some]) (fun m=>by rw [zca,if_neg (by omega)]) (by simp only [big] at hk;omega),Option.bind_some]
  cases l.all zag<;>rfl
def zpo (x:Ar 10) (i:Nat):Nat:=((List.range i).filter fun j=>!hbit x j).length
theorem z78 (x:Ar 10) (i:Nat):zpo x (i+1)+(hbit x i).toNat=zpo x i+1:=by
  unfold zpo;rw [List.range_succ,List.filter_append,List.length_append];cases h:hbit x i<;>simp [List.filter,h]
theorem ye9 (x:Ar 10) (i:Nat):zpo x i≤i:=by
  unfold zpo;exact Nat.le_trans (List.length_filter_le _ _) (by rw [List.length_range];exact Nat.le_refl _)
theorem yed {k:Nat} {p:Pat} (hp:zab p.mask=true) (hk:160<k):zlv k p=some ((zpo p.mask 160:Nat):Int):=by
  have key:∀ m i,i≤160→160 - i<m→zef k p m ((zpo p.mask i:Nat):Int) (i:Int)=some ((zpo p.mask 160:Nat):Int):=by
    intro m
    induction m with
    |zero=>intro i h1 h2;omega
    |succ m ih =>
      intro i h1 h2;rw [zef];by_cases c:i<160
      · have h3:=z78 p.mask i;have h4:=ye9 p.mask i;rw [if_pos (yex c),zhb hp c (by omega),Option.bind_some,zbm i (by omega),zbm _ (by omega)]
        have e:IntKind.i64.wrap (((zpo p.mask i+1:Nat):Int) - ((hbit p.mask i).toNat:Int))=((zpo p.mask (i+1):Nat):Int):=by
          have:(hbit p.mask i).toNat≤1:=by cases hbit p.mask i<;>decide
          rw [wr64 (by omega)];omega
        rw [e];exact ih (i+1) (by omega) (by omega)
      · obtain rfl:i=160:=by omega
        rw [if_neg (by decide)]
  have:=key k 0 (by omega) (by omega);unfold zlv;change zef k p k 0 0=_ at this;rw [this];rfl
theorem ydy:zab (zA 10)=true:=by decide
theorem ykw (j:Nat):hbit (zA 10) j=false:=by
  have e:∀ i:Nat,hw (zA 10) i=0:=fun i=>by
    show ((List.replicate 10 (0:Int)).getD i default).toNat=0;rw [List.getD_eq_getElem?_getD,List.getElem?_replicate];by_cases h:i<10
    · rw [if_pos h];rfl
    · rw [if_neg h];rfl
  unfold hbit;rw [e,Nat.zero_testBit]
theorem yam {k:Nat} {l:List Pat} (hl:∀ q,q∈l→zag q=true) (hlen:l.length≤1000) (hk:big≤k):∃ F:List Nat,zj7 k l=some ((F.length:Nat):Int)∧∀ q,q∈l→∀ j,j<160→hbit q.mask j=true→j∈F:=by
  have hk160:160<k:=Nat.lt_of_lt_of_le (by decide) hk
  have key:∀ m i x,i≤l.length→l.length - i<m→zab x=true→(∀ j,j<160→hbit x j=(l.take i).any fun q=>hbit q.mask j)→∃ y,zer k l m (i:Int) x=some y∧zab y=true∧∀ j,j<160→hbit y j=l.any fun q=>hbit q.mask j:=by
    intro m
    induction m with
    |zero=>intro i x h1 h2;omega
    |succ m ih =>
      intro i x h1 h2 hx hb;rw [zer];by_cases c:i<l.length
      · have hq:=(zai.1 (hl _ (List.getElem_mem c))).1;have hmod:zag ⟨l[i].mask,l[i].mask⟩=true:=zai.2 ⟨hq,hq,fun j _ h=>h⟩;obtain ⟨y,e,hA⟩:=yan (k:=k) hmod hx hk160;rw [if_pos (zam c),if_pos ⟨by omega,zam c⟩,zea c,e,Option.bind_some,zbm i (by omega)];refine ih (i+1) y (by omega) (by omega) hA.1 fun j hj=>?_;rw [hA.2 j hj,List.take_add_one,List.getElem?_eq_getElem c,Option.toList_some,List.any_append,hb j hj];show (if hbit l[i].mask j=true then hbit l[i].mask j else _)=_
        cases hm:hbit l[i].mask j with
        |true=>simp [hm]
        |false=>simp [hm]
      · obtain rfl:i=l.length:=by omega
        rw [if_neg (by omega)];rw [List.take_length] at hb;exact ⟨x,rfl,hx,hb⟩
  obtain ⟨y,e,hy,hb⟩:=key k 0 (zA 10) (Nat.zero_le _) (by simp only [big] at hk;omega) ydy (fun j hj=>by rw [ykw];rfl);refine ⟨(List.range 160).filter (hbit y),?_,fun q hq j hj hm=>List.mem_filter.2 ⟨List.mem_range.2 hj,by rw [hb j hj,List.any_eq_true];exact ⟨q,hq,hm⟩⟩⟩;unfold zj7;rw [show ((0:Nat):Int)=0 from rfl] at e;rw [e,Option.bind_some,yed (p:=⟨y,zA 10⟩) hy hk160,Option.bind_some];have h1:=zpq (hbit y) (List.range 160);rw [List.length_range] at h1;have h2:zpo y 160=((List.range 160).filter fun x=>!hbit y x).length:=rfl;rw [show zpo (⟨y,zA 10⟩:Pat).mask 160=zpo y 160 from rfl,wr64 (by omega)];congr 1;omega
theorem yjo {k:Nat} {l:List Pat} (hlen:l.length≤1000) (hk:big≤k):∃ b,zn8 k l 12=some b∧(b=true→(∀ q,q∈l→zag q=true)∧∃ F:List Nat,F.length≤12∧∀ q,q∈l→∀ j,j<160→hbit q.mask j=true→j∈F):=by
  unfold zn8;rw [zz2 l hlen hk,Option.bind_some]
  cases hr:l.all zag with
  |false=>exact ⟨_,by rw [if_neg (by simp)],fun h=>by cases h⟩
  |true =>
    have hl:=fun q hq=>(List.all_eq_true.1 hr) q hq;rw [if_pos rfl];by_cases c:(l.length:Int)≤12
    · rw [if_pos c];obtain ⟨F,e,hF⟩:=yam hl hlen hk;rw [e,Option.bind_some];refine ⟨_,rfl,fun h=>⟨hl,F,?_,hF⟩⟩;have:=of_decide_eq_true h;omega
    · rw [if_neg c];exact ⟨_,rfl,fun h=>by cases h⟩
theorem yai {k:Nat} {t:List Rule} (ht:t.length≤1000) (hk:big≤k):∃ b,zj2 k t=some b∧(b=true→∃ F,Lit t F):=by
  unfold zj2;have hbl:=zjb (t:=t) (i:=t.length) (Nat.le_refl _);obtain ⟨b,e,h⟩:=yjo (k:=k) (l:=bef t t.length) (by omega) hk;rw [zvn t t.length (Nat.le_refl _) (by omega) hk,Option.bind_some,e,Option.bind_some];refine ⟨b,rfl,fun hb=>?_⟩;obtain ⟨h1,F,h2,h3⟩:=h hb;have hm:∀ r,r∈t→r.mat∈bef t t.length:=fun r hr=>by unfold bef;rw [List.take_length];exact List.mem_map.2 ⟨r,hr,rfl⟩
  exact ⟨F,ht,fun r hr=>h1 _ (hm r hr),h2,fun r hr=>h3 _ (hm r hr)⟩
end
section
open Go Go.RowKit
theorem zg6 {α:Type} [Inhabited α] {l:List α} {i:Nat} (h:i<l.length):l.getD i default∈l:=by
  rw [List.getD_eq_getElem?_getD,List.getElem?_eq_getElem h];exact List.getElem_mem h
def zl3 (n:Net) (k:Int):Prop:=0≤k∧k<(n.nodes.length:Int)
instance (n:Net) (k:Int):Decidable (zl3 n k):=by unfold zl3;infer_instance
structure zry (n:Net):Prop where
  nodes:n.nodes.length≤10
  links:n.links.length≤24
  frm:∀ k,k<n.links.length→0≤(n.links.getD k default).frm∧(n.links.getD k default).frm<(n.nodes.length:Int)
  to:∀ k,k<n.links.length→0≤(n.links.getD k default).to∧(n.links.getD k default).to<(n.nodes.length:Int)
  apart:∀ k,k<n.links.length→(n.links.getD k default).frm≠(n.links.getD k default).to
  cap:∀ k,k<n.links.length→0≤(n.links.getD k default).cap∧(n.links.getD k default).cap≤1048576
theorem yks (k:Nat) (s:ByteArray) (hs:s.size<9223372036854775808):∀ (m i:Nat),i≤s.size→s.size - i<m→∃ r,zee k s m (i:Int)=some r:=by
  intro m
  induction m with
  |zero=>intro i h1 h2;omega
  |succ m ih =>
    intro i h1 h2;rw [zee];by_cases c:(i:Int)<(s.size:Int)
    · obtain ⟨r,hr⟩:=ih (i+1) (by omega) (by omega);have g:(0:Int)≤(i:Int)∧(i:Int)<(s.size:Int):=⟨by omega,c⟩
      have A1:∃ b,(if (0:Int)≤(i:Int)∧(i:Int)<(s.size:Int) then (if 97≤((bx s (i:Int)).toNat:Int) then some (decide (((bx s (i:Int)).toNat:Int)≤122)) else some false) else none)=some b:=by
        rw [if_pos g];split<;>exact ⟨_,rfl⟩
      have A2:∃ b,(if (0:Int)≤(i:Int)∧(i:Int)<(s.size:Int) then (if 48≤((bx s (i:Int)).toNat:Int) then (if ((bx s (i:Int)).toNat:Int)≤57 then some true else some (decide (((bx s (i:Int)).toNat:Int)=95))) else some (decide (((bx s (i:Int)).toNat:Int)=95))) else none)=some b:=by
        rw [if_pos g];split
        · split<;>exact ⟨_,rfl⟩
        · exact ⟨_,rfl⟩
      obtain ⟨b1,h1⟩:=A1;obtain ⟨b2,h2⟩:=A2;rw [if_pos c,h1,h2,zbm i (by omega),hr];simp only [Option.bind_some]
      (repeat' split)<;>exact ⟨_,rfl⟩
    · rw [if_neg c];exact ⟨_,rfl⟩
theorem yfz {k:Nat} (hk:9223372036854775808≤k) (s:ByteArray) (hs:s.size<9223372036854775808):∃ r,zlt k s=some r:=by
  obtain ⟨r,h⟩:=yks k s hs k 0 (by omega) (by omega);rw [show ((0:Nat):Int)=0 from rfl] at h;unfold zlt;rw [h,Option.bind_some]
  cases r with
  |inl b=>exact ⟨_,rfl⟩
  |inr u=>simp only [Sum.elim_inr];split<;>exact ⟨_,rfl⟩
theorem yep (k:Nat) (l:List ByteArray) (e:Nat) (he:e<l.length) (hl:l.length<9223372036854775808):∀ (m i:Nat),i≤e→e - i<m→∃ r,zej k l (e:Int) m (i:Int)=some r:=by
  intro m
  induction m with
  |zero=>intro i h1 h2;omega
  |succ m ih =>
    intro i h1 h2;rw [zej];by_cases c:(i:Int)<(e:Int)
    · obtain ⟨r,hr⟩:=ih (i+1) (by omega) (by omega);rw [if_pos c,if_pos ⟨by omega,by omega⟩,zbm i (by omega),hr];split<;>exact ⟨_,rfl⟩
    · rw [if_neg c];exact ⟨_,rfl⟩
theorem yeq {k:Nat} (hk:9223372036854775808≤k) (l:List ByteArray) (hl:l.length<9223372036854775808) (hs:∀ s,s∈l→s.size<9223372036854775808):∀ (m i:Nat),i≤l.length→l.length - i<m→∃ r,zek k l m (i:Int)=some r:=by
  intro m
  induction m with
  |zero=>intro i h1 h2;omega
  |succ m ih =>
    intro i h1 h2;rw [zek];by_cases c:(i:Int)<(l.length:Int)
    · have hi:i<l.length:=by omega
      obtain ⟨r,hr⟩:=ih (i+1) (by omega) (by omega);obtain ⟨b,hb⟩:=yfz hk (l.getD i default) (hs _ (zg6 hi));obtain ⟨r1,h1⟩:=yep k l i hi hl k 0 (by omega) (by omega);rw [show ((0:Nat):Int)=0 from rfl] at h1;rw [if_pos c,if_pos ⟨by omega,c⟩,zbm i (by omega),znc l i,hb,h1,hr]
      cases b with
      |false=>exact ⟨_,rfl⟩
      |true=>cases r1<;>exact ⟨_,rfl⟩
    · rw [if_neg c];exact ⟨_,rfl⟩
theorem z0h {k:Nat} (hk:9223372036854775808≤k) (l:List ByteArray) (hl:l.length<9223372036854775808) (hs:∀ s,s∈l→s.size<9223372036854775808):∃ r,zin k l=some r:=by
  obtain ⟨r,h⟩:=yeq hk l hl hs k 0 (by omega) (by omega);rw [show ((0:Nat):Int)=0 from rfl] at h;unfold zin;rw [h,Option.bind_some];cases r<;>exact ⟨_,rfl⟩
theorem yfy (k:Nat) (n:Net) (hn:n.nodes.length≤1000) (hs:∀ x,x∈n.nodes→x.name.size<9223372036854775808):∀ (m i:Nat) (l:List ByteArray),i≤n.nodes.length→n.nodes.length - i<m→l.length=i→(∀ s,s∈l→s.size<9223372036854775808) →
    ∃ l',zem k n m (i:Int) l i=some (l',l'.length)∧l'.length=n.nodes.length∧∀ s,s∈l'→s.size<9223372036854775808:=by
  intro m
  induction m with
  |zero=>intro i l h1 h2;omega
  |succ m ih =>
    intro i l h1 h2 h3 h4;rw [zem];by_cases c:(i:Int)<(n.nodes.length:Int)
    · have hi:i<n.nodes.length:=by omega
      rw [if_pos c,if_pos ⟨by omega,c⟩,if_pos (by omega),zbm i (by omega),znc n.nodes i];refine ih (i+1) _ (by omega) (by omega) (by simp [h3]) fun s hm=>?_;rcases List.mem_append.1 hm with q|q
      · exact h4 s q
      · simp only [List.mem_singleton] at q;subst q;exact hs _ (zg6 hi)
    · rw [if_neg c];exact ⟨l,by rw [h3],by omega,h4⟩
theorem yfx (k:Nat) (n:Net) (hn:n.edges.length≤1000) (hs:∀ x,x∈n.edges→x.name.size<9223372036854775808):∀ (m i:Nat) (l:List ByteArray),i≤n.edges.length→n.edges.length - i<m→l.length=i→(∀ s,s∈l→s.size<9223372036854775808) →
    ∃ l',zel k n m (i:Int) l i=some (l',l'.length)∧l'.length=n.edges.length∧∀ s,s∈l'→s.size<9223372036854775808:=by
  intro m
  induction m with
  |zero=>intro i l h1 h2;omega
  |succ m ih =>
    intro i l h1 h2 h3 h4;rw [zel];by_cases c:(i:Int)<(n.edges.length:Int)
    · have hi:i<n.edges.length:=by omega
      rw [if_pos c,if_pos ⟨by omega,c⟩,if_pos (by omega),zbm i (by omega),znc n.edges i];refine ih (i+1) _ (by omega) (by omega) (by simp [h3]) fun s hm=>?_;rcases List.mem_append.1 hm with q|q
      · exact h4 s q
      · simp only [List.mem_singleton] at q;subst q;exact hs _ (zg6 hi)
    · rw [if_neg c];exact ⟨l,by rw [h3],by omega,h4⟩
theorem zl4 {k:Nat} {n:Net} (v:Int):zgi k n v=some (decide (zl3 n v)):=by
  unfold zgi zl3;by_cases h:0≤v
  · rw [if_pos h];simp [h]
  · rw [if_neg h];simp [h]
theorem ym2 (k:Nat) (n:Net) (hn:n.nodes.length≤1000):∀ (m i:Nat),i≤n.nodes.length→n.nodes.length - i<m→∃ r,zep k n m (i:Int)=some r∧(r=.inr ()∨r=.inl 1):=by
  intro m
  induction m with
  |zero=>intro i h1 h2;omega
  |succ m ih =>
    intro i h1 h2;rw [zep];by_cases c:(i:Int)<(n.nodes.length:Int)
    · obtain ⟨r,hr,hq⟩:=ih (i+1) (by omega) (by omega);rw [if_pos c,if_pos ⟨by omega,c⟩,zbm i (by omega),hr]
      (repeat' split)<;>first|exact ⟨_,rfl,.inr rfl⟩|exact ⟨_,rfl,hq⟩
    · rw [if_neg c];exact ⟨_,rfl,.inl rfl⟩
def yi4 (n:Net) (l:Link):Prop:=zl3 n l.frm∧zl3 n l.to∧l.frm≠l.to∧0≤l.cap∧l.cap≤1048576
theorem ym1 (k:Nat) (n:Net) (hn:n.links.length≤10000):∀ (m i:Nat),i≤n.links.length→n.links.length - i<m→(∀ j,j<i→yi4 n (n.links.getD j default))→∃ r,zeo k n m (i:Int)=some r∧((r=.inr ()∧∀ j,j<n.links.length→yi4 n (n.links.getD j default))∨r=.inl 1):=by
  intro m
  induction m with
  |zero=>intro i h1 h2;omega
  |succ m ih =>
    intro i h1 h2 h3;rw [zeo];by_cases c:(i:Int)<(n.links.length:Int)
    · have hi:i<n.links.length:=by omega
      rw [if_pos c,if_pos ⟨by omega,c⟩,zbm i (by omega),znc n.links i,zl4,zl4,Option.bind_some,Option.bind_some];by_cases q1:zl3 n (n.links.getD i default).frm
      · rw [if_pos (decide_eq_true q1)];by_cases q2:zl3 n (n.links.getD i default).to
        · rw [if_pos (decide_eq_true q2)];by_cases q3:(n.links.getD i default).frm=(n.links.getD i default).to
          · rw [if_pos q3];exact ⟨_,rfl,.inr rfl⟩
          · rw [if_neg q3];by_cases q4:(n.links.getD i default).cap<0
            · rw [if_pos q4];exact ⟨_,rfl,.inr rfl⟩
            · rw [if_neg q4];by_cases q5:1048576<(n.links.getD i default).cap
              · rw [if_pos q5];exact ⟨_,rfl,.inr rfl⟩
              · rw [if_neg q5];exact ih (i+1) (by omega) (by omega) fun j hj=>by rcases Nat.lt_succ_iff_lt_or_eq.1 hj with q|q;exact h3 j q;rw [q];exact ⟨q1,q2,q3,by omega,by omega⟩
        · rw [if_neg (by simpa using q2)];exact ⟨_,rfl,.inr rfl⟩
      · rw [if_neg (by simpa using q1)];exact ⟨_,rfl,.inr rfl⟩
    · rw [if_neg c];exact ⟨_,rfl,.inl ⟨rfl,fun j hj=>h3 j (by omega)⟩⟩
theorem ym0 (k:Nat) (n:Net) (hn:n.edges.length≤1000):∀ (m i:Nat),i≤n.edges.length→n.edges.length - i<m→∃ r,zen k n m (i:Int)=some r∧(r=.inr ()∨r=.inl 1):=by
  intro m
  induction m with
  |zero=>intro i h1 h2;omega
  |succ m ih =>
    intro i h1 h2;rw [zen];by_cases c:(i:Int)<(n.edges.length:Int)
    · obtain ⟨r,hr,hq⟩:=ih (i+1) (by omega) (by omega);rw [if_pos c,if_pos ⟨by omega,c⟩,zbm i (by omega),hr,zl4,Option.bind_some];split
      · exact ⟨_,rfl,hq⟩
      · exact ⟨_,rfl,.inr rfl⟩
    · rw [if_neg c];exact ⟨_,rfl,.inl rfl⟩
structure Held (n:Net):Prop where
  nodes:∀ x,x∈n.nodes→x.name.size<9223372036854775808
  edges:∀ x,x∈n.edges→x.name.size<9223372036854775808
theorem yf2 {k:Nat} (hk:9223372036854775808≤k) (n:Net) (h1:n.nodes.length≤10) (h2:n.links.length≤24) (h3:n.edges.length≤20) (hh:Held n):∃ r,zio k n=some r∧(r=0→zry n):=by
  unfold zio;rw [if_neg (by omega),if_neg (by omega),Option.bind_some,if_neg (by simp only [decide_eq_true_eq];omega)];obtain ⟨l1,a1,a2,a3⟩:=yfy k n (by omega) hh.nodes k 0 [] (by omega) (by omega) rfl (fun s hs=>by simp at hs);obtain ⟨l2,b1,b2,b3⟩:=yfx k n (by omega) hh.edges k 0 [] (by omega) (by omega) rfl (fun s hs=>by simp at hs);obtain ⟨r1,c1⟩:=z0h hk l1 (by omega) a3;obtain ⟨r2,c2⟩:=z0h hk l2 (by omega) b3;obtain ⟨d1,e1,g1⟩:=ym2 k n (by omega) k 0 (by omega) (by omega);obtain ⟨d2,e2,g2⟩:=ym1 k n (by omega) k 0 (by omega) (by omega) (fun j hj=>by omega);obtain ⟨d3,e3,g3⟩:=ym0 k n (by omega) k 0 (by omega) (by omega);rw [show ((0:Nat):Int)=0 from rfl] at a1 b1 e1 e2 e3
  have hN:zj5 k n=some (l1,l2):=by
    unfold zj5;rw [a1,b1];simp
  rw [hN,Option.bind_some];simp only [c1,c2,Option.bind_some,e1,e2,e3]
  cases r1 with
  |false=>exact ⟨4,rfl,fun h=>by simp at h⟩
  |true =>
    cases r2 with
    |false=>exact ⟨4,rfl,fun h=>by simp at h⟩
    |true =>
      rcases g1 with rfl|rfl
      · rcases g2 with ⟨rfl,hall⟩|rfl
        · have hR:zry n:=⟨h1,h2,fun j hj=>(hall j hj).1,fun j hj=>(hall j hj).2.1,fun j hj=>(hall j hj).2.2.1,fun j hj=>(hall j hj).2.2.2⟩;rcases g3 with rfl|rfl
          · exact ⟨0,rfl,fun _=>hR⟩
          · exact ⟨1,rfl,fun h=>by simp at h⟩
        · exact ⟨1,rfl,fun h=>by simp at h⟩
      · exact ⟨1,rfl,fun h=>by simp at h⟩
end
section
open Go Go.RowKit
def yjx (t:List Rule) (j:Int):Int:=if j=0 then 65536 else (gx t (j - 1)).prio
def z53 (n:Net) (steps:Int) (t:List Rule) (j:Nat):Bool:=zwk n steps (t.getD j default) && decide ((t.getD j default).prio<yjx t j)
def zww (n:Net) (steps:Int) (t:List Rule):Int×Int :=
  if steps<0∨1000<steps then (0,1) else if 4000<t.length then (0,2) else
  match (List.range t.length).findSome? (fun j=>if z53 n steps t j=true then none else some ((j:Int),(1:Int))) with
  |some r=>r
  |none=>(0,0)
theorem yak {k:Nat} (n:Net) (steps:Int) (t:List Rule) (ht:zq1 t) (hk:big≤k):zj4 k n steps t=some (zww n steps t):=by
  unfold zj4 zww
  have hloop:zcn k n steps t k 0=some (sumO ((List.range t.length).findSome? (fun j=>if z53 n steps t j=true then none else some ((j:Int),(1:Int))))):=by
    refine zmt (L:=zcn k n steps t) t.length _ ht.1 (fun m j h=>?_) (fun m=>by rw [zcn,if_neg (by omega)]) (Nat.lt_of_lt_of_le ht.1 hk);have hb:j<9223372036854775808:=by have:=ht.1;simp only [big] at this;omega
    rw [zcn,if_pos (zam h),if_pos ⟨by omega,zam h⟩,zea h,z7p n steps _ (ht.2 _ (List.getElem_mem h)) hk,Option.bind_some]
    have hg:z53 n steps t j=(zwk n steps t[j] && decide (t[j].prio<yjx t j)):=by
      unfold z53;rw [List.getD_eq_getElem?_getD,List.getElem?_eq_getElem h];rfl
    rw [hg]
    cases hf:zwk n steps t[j] with
    |false=>rfl
    |true =>
      simp only [if_true,Bool.true_and,decide_eq_true_eq];unfold yjx;by_cases c0:0<(j:Int)
      · have e1:IntKind.i64.wrap ((j:Int) - 1)=((j - 1:Nat):Int):=by rw [wr64 (by omega)];omega
        have e2:(j:Int) - 1=((j - 1:Nat):Int):=by omega
        have h2:j - 1<t.length:=by omega
        rw [if_pos c0,e1,if_pos ⟨by omega,by omega⟩,if_neg (show ¬ (j:Int)=0 by omega),e2,zea h2];by_cases c:t[j - 1].prio≤t[j].prio
        · rw [if_pos c,if_neg (by omega)]
        · rw [if_neg c,if_pos (by omega)]
      · have hp:t[j].prio≤65535:=by
          unfold zwk at hf;simp only [Bool.and_eq_true,decide_eq_true_eq] at hf;exact hf.1.2
        rw [if_neg c0,if_pos (show (j:Int)=0 by omega),if_pos (by omega)]
  rw [hloop];by_cases c1:steps<0
  · rw [if_pos c1,if_pos (show steps<0∨1000<steps from .inl c1)];rfl
  · rw [if_neg c1];by_cases c2:1000<steps
    · rw [decide_eq_true c2,if_pos (show steps<0∨1000<steps from .inr c2)];rfl
    · rw [decide_eq_false c2,if_neg (show ¬ (steps<0∨1000<steps) by omega),Option.bind_some];simp only [Bool.false_eq_true,if_false];by_cases c3:4000<t.length
      · rw [if_pos (by omega),if_pos c3]
      · rw [if_neg (by omega),if_neg c3,Option.bind_some];cases (List.range t.length).findSome? _<;>rfl
def fewT (t:List Rule) (most:Int):Bool:=t.all (fun r=>decide (r.outs.length≤20) && r.outs.all fun l=>decide (l.length≤10)) && decide ((t.length:Int)≤most)
theorem yjn {k:Nat} (t:List Rule) (most:Int) (ht:zq1 t) (hk:big≤k):zn3 k t most=some (fewT t most):=by
  unfold zn3 fewT
  rw [zon (L:=zff k t) t false (fun r=>decide (r.outs.length≤20) && r.outs.all fun l=>decide (l.length≤10)) ht.1 (fun m j h=>by
    rw [zff,if_pos (zam h),if_pos ⟨by omega,zam h⟩,zea h];by_cases c:20<(t[j].outs.length:Int)
    · rw [if_pos c,decide_eq_false (by omega)];rfl
    · rw [if_neg c,decide_eq_true (by omega)];have hr:=(ht.2 _ (List.getElem_mem h)).1
      rw [zon (L:=zfe k t (j:Int)) t[j].outs false (fun l=>decide (l.length≤10)) hr (fun m i hi=>by
        rw [zfe,zea h,if_pos (zam hi),if_pos ⟨by omega,zam hi⟩,zea hi];by_cases d:10<(t[j].outs[i].length:Int)
        · rw [if_pos d,decide_eq_false (by omega)];rfl
        · rw [if_neg d,decide_eq_true (by omega)];rfl) (fun m=>by rw [zfe,zea h,if_neg (by omega)]) (Nat.lt_of_lt_of_le hr hk),Option.bind_some]
      simp only [Bool.true_and]
      cases t[j].outs.all _<;>rfl) (fun m=>by rw [zff,if_neg (by omega)]) (Nat.lt_of_lt_of_le ht.1 hk),Option.bind_some]
  cases t.all _<;>rfl
end
section
open Go Go.RowKit
/-! links that are up -/
theorem z6c {α:Type} [Inhabited α] (q:α→Bool):∀ (l:List α),(l.find? q=none∧idxB q l=-1)∨∃ i:Nat,∃ h:i<l.length,idxB q l=(i:Int)∧l.find? q=some l[i]
  |[]=>.inl ⟨rfl,rfl⟩
  |x :: l=>by
    unfold idxB;rw [List.findIdx?_cons,List.find?_cons]
    cases hq:q x with
    |true=>exact .inr ⟨0,by simp,rfl,rfl⟩
    |false =>
      rcases z6c q l with ⟨h1,h2⟩|⟨i,hi,h1,h2⟩
      · left;unfold idxB at h2;refine ⟨h1,?_⟩
        cases hf:l.findIdx? q with
        |none=>rfl
        |some j=>rw [hf] at h2;simp at h2;try omega
      · right;unfold idxB at h1;refine ⟨i+1,by simpa using hi,?_,by simpa using h2⟩
        cases hf:l.findIdx? q with
        |none=>rw [hf] at h1;simp at h1;try omega
        |some j=>rw [hf] at h1;simp at h1 ⊢;omega
structure CanSend (n:Net) (r:Rule):Prop where
  len:r.outs.length≤16
  alts:∀ l,l∈r.outs→l.length≤8
  link:∀ l,l∈r.outs→∀ a,a∈l→a.link<(n.links.length:Int)
  mod:∀ l,l∈r.outs→∀ a,a∈l→zag a.mod=true
/-! looking up -/
def zq2 (t:List Rule) (h:Ar 10):Int:=idxB (fun r=>zaq r.mat h) t
theorem znx {k:Nat} (l:List Rule) (f:Rule→Option Bool) (q:Rule→Bool) (hf:∀ x,x∈l→f x=some (q x)) (hl:l.length<big) (hk:l.length<k):zcf k l f=some (idxB q l):=by
  unfold zcf;exact z71 l q hl (fun m j h=>by rw [zaz,if_pos (zam h),if_pos ⟨by omega,zam h⟩,zea h,hf _ (List.getElem_mem h),Option.bind_some]) (fun m=>by rw [zaz,if_neg (by omega)]) hk
theorem zp1 {k:Nat} (t:List Rule) (h:Ar 10) (hp:∀ r,r∈t→zag r.mat=true) (hh:zab h=true) (hl:t.length<big) (hk:big≤k):zfq k t h=some (zq2 t h):=by
  unfold zfq;rw [znx t _ (fun r=>zaq r.mat h) (fun r hr=>by unfold zfc;rw [z8i (hp r hr) hh (by simp only [big] at hk;omega)];rfl) hl (Nat.lt_of_lt_of_le hl hk)];rfl
end
section
open Go Go.RowKit
end
section
open Go Go.RowKit
set_option maxRecDepth 100000
def zes (k:Nat) (n:Net) (tables:List (List Rule)):Nat→Int→(List Rule)→Nat→Option (Bool ⊕ (List Rule×Nat))
 |0,_,_,_=>none
 |m+1,i,l,n2=>(if i<(tables.length:Int) then (if (0:Int)≤i∧i<(tables.length:Int) then ((zn3 k (gx tables i) 8).bind fun rFew2=>(if rFew2=true then ((zj4 k n 1000 (gx tables i)).bind fun rCheck2=>(if rCheck2.2≠0 then some (.inl false) else (if (n2+(gx tables i).length)*201≤1000000000 then (if (gx tables i).length=0 then zes k n tables m (IntKind.i64.wrap (i+1)) l n2 else zes k n tables m (IntKind.i64.wrap (i+1)) (l++(gx tables i)) (n2+(gx tables i).length)) else none))) else some (.inl false))) else none) else some (.inr (l,n2)))
def zoc (k:Nat) (n:Net) (tables:List (List Rule)):Option Bool:=((((zn5 k n 10 24 20).bind fun rFew=>(if rFew=true then ((zio k n).bind fun rCheck=>some (decide (rCheck≠0))) else some true)):Option Bool).bind fun s_=>(if s_=true then some false else ((zes k n tables k 0 [] 0:Option (Bool ⊕ (List Rule×Nat))).bind fun o=>Sum.elim (fun r=>some r) (fun s_2=>(if s_2.1.length=s_2.2 then ((zj2 k s_2.1).bind fun rLight=>some rLight) else none)) o)))
set_option maxHeartbeats 8000000 in
theorem zsc (ax:Axs) (hx:zbx ax) (k:Nat) (n:Net) (tables:List (List Rule)) (v:Bool) (H:zoc k n tables=some v):Pure Tryz.prog (EE ax) [] 27 [eNet n,zqh tables] (.bool v):=by
 rw [zoc] at H;refine en [.tmp 4] 41 [0,1] (hx.no _ (by decide)) (fn27 ax) ?_;intro h hh;repeat apply TW.seq
 refine rk [1,2] [] hh ?_;clear hh h;intro h hh;obtain ⟨s_,H1,H⟩:=zad H;repeat apply TW.seq
 refine cu [1,2,17] 1 (fun h bs=>(h 1=zqh tables∧h 2=.ptr 0 0 3∧h 17=.bool s_)∧bs=[.cells true 3 [za6 n.nodes,za7 n.links,za8 n.edges]]) ?_ ?_
 ·skip;obtain ⟨rFew,e1,H1⟩:=zad H1;rcases isb H1 with ⟨c2,H1⟩|⟨c2,H1⟩;rotate_left
  ·skip;repeat apply TW.seq
   refine rkc [1,2,17] [] [(.bool rFew,stL [.cells true 3 [za6 n.nodes,za7 n.links,za8 n.edges]])] (f2 hh c2) ?_ ?_
   ·exact ⟨zaj.call (Pure.clr (zr8 ax hx k n 10 24 20 rFew e1 ) (by first|rfl|simp only [c2])),trivial⟩
   clear hh h;intro h hh;cases H1;exact ce hh ⟨kq hh,rfl⟩
  obtain ⟨rCheck,e3,H1⟩:=zad H1;repeat apply TW.seq
  refine rkc [1,2,17] [] [(.bool rFew,stL [.cells true 3 [za6 n.nodes,za7 n.links,za8 n.edges]]),(.int .i64 rCheck,stL [.cells true 3 [za6 n.nodes,za7 n.links,za8 n.edges]])] (f2 hh c2) ?_ ?_
  ·exact ⟨zaj.call (Pure.clr (zr8 ax hx k n 10 24 20 rFew e1 ) (by first|rfl|simp only [c2])),zaj.call (Pure.clr (zxq ax hx k n rCheck e3 ) (by first|rfl|simp only [c2])),trivial⟩
  clear hh h;intro h hh;cases H1;exact ce hh ⟨kq hh,rfl⟩
 clear hh h;rintro h bs ⟨hh,rfl⟩;rcases isb H with ⟨c4,H⟩|⟨c4,H⟩;rotate_left
 ·skip;repeat apply TW.seq
  refine cf (f2 hh c4) ?_;repeat apply TW.seq
  refine sk ?_;repeat apply TW.seq
  refine rk [1,2,5] [] (f2 hh c4) ?_;clear hh h;intro h hh;refine vk 5 23 [1,2,5] hh ?_;clear hh h;intro h hh;repeat apply TW.seq
  refine rk [2,5,18,19,20] [] (f3 hh c4 (yk3 ax)) ?_;clear hh h;intro h hh;obtain ⟨o,H1,H⟩:=zad H;repeat apply TW.seq
  refine cu [5] 2 (fun h bs=>∃ s_2:List Rule×Nat,o=.inr s_2∧(h 5=.arr 1 23 0 s_2.2 s_2.2 (s_2.2*23))∧bs=[.cells true 3 [za6 n.nodes,za7 n.links,za8 n.edges],.cells false (s_2.2*23) (vecC zas s_2.1)]) ?_ ?_
  ·skip;repeat apply TW.seq
   apply TW.block;repeat apply TW.seq
   refine TW.loopT [2,5,18,19,20] (fun m h bs=>∃ (i:Int) (l:List Rule) (n2:Nat),zes k n tables m i l n2=some o∧(h 2=.ptr 0 0 3∧h 5=.arr 1 23 0 n2 n2 (n2*23)∧h 18=zqh tables∧h 19=.int .i64 (tables.length:Int)∧h 20=.int .i64 i)∧bs=[.cells true 3 [za6 n.nodes,za7 n.links,za8 n.edges],.cells false (n2*23) (vecC zas l)]) ?_ k _ _ ?_;rotate_left
   ·exact ⟨0,[],0,H1,kq hh,rfl⟩
   clear hh h H1;rintro m h bs ⟨i,l,n2,H1,hh,rfl⟩;rcases m with _|m
   ·rw [zes] at H1;cases H1
   rw [zes] at H1;repeat apply TW.seq
   refine rk [2,5,18,19,20,21] [] (f2 hh c4) ?_;clear hh h;intro h hh;rcases isp H1 with ⟨c5,H1⟩|⟨c5,H1⟩;rotate_left
   ·skip;repeat apply TW.seq
    refine cf (f2 hh (decide_eq_false c5)) ?_;refine xk ?_;cases H1;exact ce hh ⟨_,rfl,kq hh,rfl⟩
   repeat apply TW.seq
   refine ct (f2 hh (decide_eq_true c5)) ?_;repeat apply TW.seq
   refine sk ?_;repeat apply TW.seq
   apply TW.block;obtain ⟨g6,H1⟩:=isg H1;repeat apply TW.seq
   refine rk [2,5,7,18,19,20] [] (f3 hh c4 (f2 (zal g6) (yk3 ax))) ?_;clear hh h;intro h hh;obtain ⟨rFew2,e7,H1⟩:=zad H1;repeat apply TW.seq
   refine rkc [2,5,7,18,19,20,26] [] [(.bool rFew2,stL [.cells true 3 [za6 n.nodes,za7 n.links,za8 n.edges],.cells false (n2*23) (vecC zas l)])] (f2 hh c4) ?_ ?_
   ·exact ⟨zaj.call (Pure.clr (z2k ax hx k (gx tables i) 8 rFew2 e7 ) (by first|rfl|simp only [c4])),trivial⟩
   clear hh h;intro h hh;rcases isb H1 with ⟨c8,H1⟩|⟨c8,H1⟩;rotate_left
   ·skip;repeat apply TW.seq
    refine ct (f2 hh c8) ?_;repeat apply TW.seq
    refine rk [4] [] (f3 hh c4 c8) ?_;clear hh h;intro h hh;cases H1;obtain rfl:=sinl H;exact rt hh
   repeat apply TW.seq
   refine cf (f2 hh c8) ?_;repeat apply TW.seq
   refine sk ?_;obtain ⟨rCheck2,e9,H1⟩:=zad H1;repeat apply TW.seq
   refine rkc [2,5,7,9,18,19,20] [] [(.tup [.int .i64 rCheck2.1,.int .i64 rCheck2.2],stL [.cells true 3 [za6 n.nodes,za7 n.links,za8 n.edges],.cells false (n2*23) (vecC zas l)])] (f3 hh c4 c8) ?_ ?_
   ·exact ⟨zaj.call (Pure.clr (zxo ax hx k n 1000 (gx tables i) rCheck2 e9 ) (by first|rfl|simp only [c4,c8])),trivial⟩
   clear hh h;intro h hh;repeat apply TW.seq
   refine rk [2,5,7,18,19,20,34] [] (f3 hh c4 c8) ?_;clear hh h;intro h hh;rcases isp H1 with ⟨c10,H1⟩|⟨c10,H1⟩;rotate_left
   ·skip;repeat apply TW.seq
    refine cf (f2 hh (decide_eq_false c10)) ?_;repeat apply TW.seq
    refine sk ?_;obtain ⟨g11,H1⟩:=isg H1;rcases isp H1 with ⟨c12,H1⟩|⟨c12,H1⟩;rotate_left
    ·skip;repeat apply TW.seq
     refine rg [] [] [.cells true 3 [za6 n.nodes,za7 n.links,za8 n.edges],.cells false ((n2+(gx tables i).length)*23) (vecC zas (l++(gx tables i)))] (fun h=>h 2=.ptr 0 0 3∧h 5=.arr 1 23 0 (n2+(gx tables i).length) (n2+(gx tables i).length) ((n2+(gx tables i).length)*23)∧h 18=zqh tables∧h 19=.int .i64 (tables.length:Int)∧h 20=.int .i64 i) (f3 hh c4 (f3 c8 (zew zas (gx tables i)) (f3 (zc7 (f:=zas) (e:=23) (fun x=>zba x) (gx tables i)) (zd1 (f:=zas) (fun x=>zg4 x) (gx tables i)) (f2 (el28 ax) (sr28 ax))))) trivial ?_;clear hh h;intro h hh;repeat apply TW.seq
     refine rk [2,5,18,19,20] [] (f3 hh c4 c8) ?_;clear hh h;intro h hh;exact rd m hh ⟨(IntKind.i64.wrap (i+1)),(l++(gx tables i)),(n2+(gx tables i).length),H1,kq hh,rfl⟩
    repeat apply TW.seq
    refine rg [] [] [.cells true 3 [za6 n.nodes,za7 n.links,za8 n.edges],.cells false (n2*23) (vecC zas l)] (fun h=>h 2=.ptr 0 0 3∧h 5=.arr 1 23 0 n2 n2 (n2*23)∧h 18=zqh tables∧h 19=.int .i64 (tables.length:Int)∧h 20=.int .i64 i) (f3 hh c4 (f3 c8 c12 (f3 (zew zas (gx tables i)) (zc7 (f:=zas) (e:=23) (fun x=>zba x) (gx tables i)) (f3 (zd1 (f:=zas) (fun x=>zg4 x) (gx tables i)) (el28 ax) (sr28 ax))))) trivial ?_;clear hh h;intro h hh;repeat apply TW.seq
    refine rk [2,5,18,19,20] [] (f3 hh c4 (f2 c8 c12)) ?_;clear hh h;intro h hh;exact rd m hh ⟨(IntKind.i64.wrap (i+1)),l,n2,H1,kq hh,rfl⟩
   repeat apply TW.seq
   refine ct (f2 hh (decide_eq_true c10)) ?_;repeat apply TW.seq
   refine rk [4] [] (f3 hh c4 c8) ?_;clear hh h;intro h hh;cases H1;obtain rfl:=sinl H;exact rt hh
  clear hh h;rintro h bs ⟨s_2,rfl,hh,rfl⟩;replace H:=sinr H;obtain ⟨g13,H⟩:=isg H;obtain ⟨rLight,e14,H⟩:=zad H;repeat apply TW.seq
  refine rkc [4] [] [(.bool rLight,stL [.cells true 3 [za6 n.nodes,za7 n.links,za8 n.edges],.cells false (s_2.2*23) (vecC zas s_2.1)])] (f2 hh c4) ?_ ?_
  ·exact ⟨(by have q:=zaj.call (Pure.lend (S:=stL [.cells true 3 [za6 n.nodes,za7 n.links,za8 n.edges],.cells false (s_2.2*23) (vecC zas s_2.1)]) (args:=[.arr 1 23 0 s_2.2 s_2.2 (s_2.2*23)]) (zxm ax hx k s_2.1 rLight e14 ) (And.intro (zoo (fun x=>zba x) (by decide) (by rfl) g13) (trivial)) rfl);(try simp only [c4] at q);exact q),trivial⟩
  clear hh h;intro h hh;cases H;exact rt hh
 repeat apply TW.seq
 refine ct (f2 hh c4) ?_;repeat apply TW.seq
 refine rk [4] [] (f2 hh c4) ?_;clear hh h;intro h hh;cases H;exact rt hh
def zga (k:Nat) (x:Int):Option Bool:=some (decide (x≠x))
set_option maxHeartbeats 8000000 in
theorem zka (ax:Axs) (hx:zbx ax) (k:Nat) (x:Int) (v:Bool) (H:zga k x=some v):Pure Tryz.prog (EE ax) [] 144 [.int .i64 x] (.bool v):=by
 rw [zga] at H;refine en [.tmp 2] 6 [0] (hx.no _ (by decide)) (fn144 ax) ?_;intro h hh;repeat apply TW.seq
 refine rk [0] [] hh ?_;clear hh h;intro h hh;repeat apply TW.seq
 refine rk [2] [] hh ?_;clear hh h;intro h hh;cases H;exact rt hh
def zez (k:Nat) (x:Int) (y:Int):Option Int:=((zga k x).bind fun rint=>((zga k y).bind fun rint2=>(if rint=true then (if rint2=true then some 0 else some (-1)) else (if rint2=true then some 1 else (if x<y then some (-1) else (if y<x then some 1 else some 0))))))
set_option maxHeartbeats 8000000 in
theorem znm (ax:Axs) (hx:zbx ax) (k:Nat) (x:Int) (y:Int) (v:Int) (H:zez k x y=some v):Pure Tryz.prog (EE ax) [] 124 [.int .i64 x,.int .i64 y] (.int .i64 v):=by
 rw [zez] at H;refine en [.tmp 4] 20 [0,1] (hx.no _ (by decide)) (fn124 ax) ?_;intro h hh;repeat apply TW.seq
 refine rk [0,1] [] hh ?_;clear hh h;intro h hh;obtain ⟨rint,e1,H⟩:=zad H;repeat apply TW.seq
 refine rkc [0,1,5] [] [(.bool rint,stL [])] hh ?_ ?_
 ·exact ⟨zaj.call ((zka ax hx k x rint e1 ).call _),trivial⟩
 clear hh h;intro h hh;obtain ⟨rint2,e2,H⟩:=zad H;repeat apply TW.seq
 refine rkc [0,1,5,6] [] [(.bool rint2,stL [])] hh ?_ ?_
 ·exact ⟨zaj.call ((zka ax hx k y rint2 e2 ).call _),trivial⟩
 clear hh h;intro h hh;repeat apply TW.seq
 refine rk [0,1,6,11] [] hh ?_;clear hh h;intro h hh;rcases isb H with ⟨c3,H⟩|⟨c3,H⟩;rotate_left
 ·skip;repeat apply TW.seq
  refine cf (f2 hh c3) ?_;repeat apply TW.seq
  refine sk ?_;repeat apply TW.seq
  refine rk [0,1,13] [] (f2 hh c3) ?_;clear hh h;intro h hh;rcases isb H with ⟨c5,H⟩|⟨c5,H⟩;rotate_left
  ·skip;repeat apply TW.seq
   refine cf (f2 hh c5) ?_;repeat apply TW.seq
   refine sk ?_;repeat apply TW.seq
   refine rk [0,1,16] [] (f3 hh c3 c5) ?_;clear hh h;intro h hh;rcases isp H with ⟨c6,H⟩|⟨c6,H⟩;rotate_left
   ·skip;repeat apply TW.seq
    refine cf (f2 hh (decide_eq_false c6)) ?_;repeat apply TW.seq
    refine sk ?_;repeat apply TW.seq
    refine rk [19] [] (f3 hh c3 c5) ?_;clear hh h;intro h hh;rcases isp H with ⟨c7,H⟩|⟨c7,H⟩;rotate_left
    ·skip;repeat apply TW.seq
     refine cf (f2 hh (decide_eq_false c7)) ?_;repeat apply TW.seq
     refine sk ?_;repeat apply TW.seq
     refine rk [4] [] (f3 hh c3 c5) ?_;clear hh h;intro h hh;cases H;exact rt hh
    repeat apply TW.seq
    refine ct (f2 hh (decide_eq_true c7)) ?_;repeat apply TW.seq
    refine rk [4] [] (f3 hh c3 c5) ?_;clear hh h;intro h hh;cases H;exact rt hh
   repeat apply TW.seq
   refine ct (f2 hh (decide_eq_true c6)) ?_;repeat apply TW.seq
   refine rk [4] [] (f3 hh c3 c5) ?_;clear hh h;intro h hh;cases H;exact rt hh
  repeat apply TW.seq
  refine ct (f2 hh c5) ?_;repeat apply TW.seq
  refine rk [4] [] (f3 hh c3 c5) ?_;clear hh h;intro h hh;cases H;exact rt hh
 repeat apply TW.seq
 refine ct (f2 hh c3) ?_;repeat apply TW.seq
 refine rk [12] [] (f2 hh c3) ?_;clear hh h;intro h hh;rcases isb H with ⟨c4,H⟩|⟨c4,H⟩;rotate_left
 ·skip;repeat apply TW.seq
  refine cf (f2 hh c4) ?_;repeat apply TW.seq
  refine sk ?_;repeat apply TW.seq
  refine rk [4] [] (f3 hh c3 c4) ?_;clear hh h;intro h hh;cases H;exact rt hh
 repeat apply TW.seq
 refine ct (f2 hh c4) ?_;repeat apply TW.seq
 refine rk [4] [] (f3 hh c3 c4) ?_;clear hh h;intro h hh;cases H;exact rt hh
def zbg (k:Nat) (s1:List Int) (s2:List Int):Nat→Int→Option (Int ⊕ Unit)
 |0,_=>none
 |m+1,i=>(if i<(s1.length:Int) then (if (0:Int)≤i∧i<(s1.length:Int) then (if (s2.length:Int)≤i then some (.inl 1) else (if (0:Int)≤i∧i<(s2.length:Int) then ((zez k (gx s1 i) (gx s2 i)).bind fun rint=>(if rint≠0 then some (.inl rint) else zbg k s1 s2 m (IntKind.i64.wrap (i+1)))) else none)) else none) else some (.inr ()))
def zei (k:Nat) (s1:List Int) (s2:List Int):Option Int:=((zbg k s1 s2 k 0:Option (Int ⊕ Unit)).bind fun o=>Sum.elim (fun r=>some r) (fun s_=>(if (s1.length:Int)<(s2.length:Int) then some (-1) else some 0)) o)
set_option maxHeartbeats 8000000 in
theorem zlk (ax:Axs) (hx:zbx ax) (k:Nat) (s1:List Int) (s2:List Int) (v:Int) (H:zei k s1 s2=some v):Pure Tryz.prog (EE ax) [] 72 [ints s1,ints s2] (.int .i64 v):=by
 rw [zei] at H;refine en [.tmp 4] 36 [0,1] (hx.no _ (by decide)) (fn72 ax) ?_;intro h hh;repeat apply TW.seq
 refine rk [0,1] [] hh ?_;clear hh h;intro h hh;repeat apply TW.seq
 refine rk [0,1,9,10,11] [] hh ?_;clear hh h;intro h hh;obtain ⟨o,H1,H⟩:=zad H;repeat apply TW.seq
 refine cu [0,1] 0 (fun h bs=>∃ s_:Unit,o=.inr s_∧(h 0=ints s1∧h 1=ints s2)∧bs=[]) ?_ ?_
 ·skip;repeat apply TW.seq
  apply TW.block;repeat apply TW.seq
  refine TW.loopT [0,1,9,10,11] (fun m h bs=>∃ (i:Int),zbg k s1 s2 m i=some o∧(h 0=ints s1∧h 1=ints s2∧h 9=ints s1∧h 10=.int .i64 (s1.length:Int)∧h 11=.int .i64 i)∧bs=[]) ?_ k _ _ ?_;rotate_left
  ·exact ⟨0,H1,kq hh,rfl⟩
  clear hh h H1;rintro m h bs ⟨i,H1,hh,rfl⟩;rcases m with _|m
  ·rw [zbg] at H1;cases H1
  rw [zbg] at H1;repeat apply TW.seq
  refine rk [0,1,9,10,11,12] [] hh ?_;clear hh h;intro h hh;rcases isp H1 with ⟨c1,H1⟩|⟨c1,H1⟩;rotate_left
  ·skip;repeat apply TW.seq
   refine cf (f2 hh (decide_eq_false c1)) ?_;refine xk ?_;cases H1;exact ce hh ⟨_,rfl,kq hh,rfl⟩
  repeat apply TW.seq
  refine ct (f2 hh (decide_eq_true c1)) ?_;repeat apply TW.seq
  refine sk ?_;repeat apply TW.seq
  apply TW.block;obtain ⟨g2,H1⟩:=isg H1;repeat apply TW.seq
  refine rk [0,1,5,6,9,10,11] [] (f2 hh (zal g2)) ?_;clear hh h;intro h hh;repeat apply TW.seq
  refine rk [0,1,5,6,9,10,11,19] [] hh ?_;clear hh h;intro h hh;rcases isp H1 with ⟨c3,H1⟩|⟨c3,H1⟩;rotate_left
  ·skip;repeat apply TW.seq
   refine cf (f2 hh (decide_eq_false c3)) ?_;repeat apply TW.seq
   refine sk ?_;obtain ⟨g4,H1⟩:=isg H1;repeat apply TW.seq
   refine rk [0,1,6,7,9,10,11] [] (f2 hh (zal g4)) ?_;clear hh h;intro h hh;obtain ⟨rint,e5,H1⟩:=zad H1;repeat apply TW.seq
   refine rkc [0,1,8,9,10,11] [] [(.int .i64 rint,stL [])] hh ?_ ?_
   ·exact ⟨zaj.call ((znm ax hx k (gx s1 i) (gx s2 i) rint e5 ).call _),trivial⟩
   clear hh h;intro h hh;repeat apply TW.seq
   refine rk [0,1,8,9,10,11,28] [] hh ?_;clear hh h;intro h hh;rcases isp H1 with ⟨c6,H1⟩|⟨c6,H1⟩;rotate_left
   ·skip;repeat apply TW.seq
    refine cf (f2 hh (decide_eq_false c6)) ?_;repeat apply TW.seq
    refine sk ?_;repeat apply TW.seq
    refine rk [0,1,9,10,11] [] hh ?_;clear hh h;intro h hh;exact rd m hh ⟨(IntKind.i64.wrap (i+1)),H1,kq hh,rfl⟩
   repeat apply TW.seq
   refine ct (f2 hh (decide_eq_true c6)) ?_;repeat apply TW.seq
   refine rk [4] [] hh ?_;clear hh h;intro h hh;cases H1;obtain rfl:=sinl H;exact rt hh
  repeat apply TW.seq
  refine ct (f2 hh (decide_eq_true c3)) ?_;repeat apply TW.seq
  refine rk [4] [] hh ?_;clear hh h;intro h hh;cases H1;obtain rfl:=sinl H;exact rt hh
 clear hh h;rintro h bs ⟨s_,rfl,hh,rfl⟩;replace H:=sinr H;repeat apply TW.seq
 refine rk [35] [] hh ?_;clear hh h;intro h hh;rcases isp H with ⟨c7,H⟩|⟨c7,H⟩;rotate_left
 ·skip;repeat apply TW.seq
  refine cf (f2 hh (decide_eq_false c7)) ?_;repeat apply TW.seq
  refine sk ?_;repeat apply TW.seq
  refine rk [4] [] hh ?_;clear hh h;intro h hh;cases H;exact rt hh
 repeat apply TW.seq
 refine ct (f2 hh (decide_eq_true c7)) ?_;repeat apply TW.seq
 refine rk [4] [] hh ?_;clear hh h;intro h hh;cases H;exact rt hh
def zcu (k:Nat) (a:Ar 10) (b:Ar 10):Option Int:=((zei k a.l b.l).bind fun rint=>some rint)
set_option maxHeartbeats 8000000 in
theorem zfi (ax:Axs) (hx:zbx ax) (k:Nat) (a:Ar 10) (b:Ar 10) (v:Int) (H:zcu k a b=some v):Pure Tryz.prog (EE ax) [] 35 [.agg (a.l.map (T.int .i64)),.agg (b.l.map (T.int .i64))] (.int .i64 v):=by
 rw [zcu] at H;refine en [.tmp 4] 8 [0,1] (hx.no _ (by decide)) (fn35 ax) ?_;intro h hh;repeat apply TW.seq
 refine rk [2,3] [] hh ?_;clear hh h;intro h hh;obtain ⟨rint,e1,H⟩:=zad H;repeat apply TW.seq
 refine dk 0 [4] [] [] [(.int .i64 rint,stL [.cells true 10 (a.l.map (T.int .i64)),.cells true 10 (b.l.map (T.int .i64))])] hh trivial ?_ ?_
 ·exact ⟨(by have q:=zaj.call (Pure.lend (S:=stL [.cells true 10 (a.l.map (T.int .i64)),.cells true 10 (b.l.map (T.int .i64))]) (args:=[.arr 0 1 0 10 10 10,.arr 1 1 0 10 10 10]) (zlk ax hx k a.l b.l rint e1 ) (And.intro (z5h (fun _=>rfl) (by rfl) (Ar.len a)) (And.intro (z5h (fun _=>rfl) (by rfl) (Ar.len b)) (trivial))) rfl);exact q),trivial⟩
 clear hh h;intro h hh;cases H;exact rt hh
end
section
open Go Go.RowKit
theorem ylq {k:Nat} (hk:9223372036854775808≤k) (n:Net) (hh:Held n):∃ b,((zn5 k n 10 24 20).bind fun rFew=>(if rFew=true then ((zio k n).bind fun rCheck=>some (decide (rCheck≠0))) else some true))=some b∧(b=false→zry n):=by
  unfold zn5;by_cases q1:(n.nodes.length:Int)≤10
  · rw [if_pos q1];by_cases q2:(n.links.length:Int)≤24
    · rw [if_pos q2,Option.bind_some];by_cases q3:(n.edges.length:Int)≤20
      · rw [if_pos (decide_eq_true q3)];obtain ⟨r1,h1,h2⟩:=yf2 hk n (by omega) (by omega) (by omega) hh;rw [h1,Option.bind_some];exact ⟨_,rfl,fun h=>h2 (by simpa using h)⟩
      · rw [if_neg (by simpa using q3)];exact ⟨_,rfl,fun h=>by cases h⟩
    · rw [if_neg q2];exact ⟨_,rfl,fun h=>by cases h⟩
  · rw [if_neg q1];exact ⟨_,rfl,fun h=>by cases h⟩
theorem yj5 {t:List Rule} (h:fewT t 8=true):t.length≤8:=by
  unfold fewT at h;rw [Bool.and_eq_true] at h;have:=of_decide_eq_true h.2;omega
theorem z7m {k:Nat} (hk:big≤k) (n:Net) (hn:Held n) (ts:List (List Rule)) (hts:∀ t,t∈ts→zq1 t) (h2:ts.length≤2) :
    ∃ b,zoc k n ts=some b∧(b=true→zry n∧(∀ t,t∈ts→t.length≤8∧(zww n 1000 t).2=0)∧∃ F,Lit ts.flatten F):=by
  have key : ∀ m i, i ≤ ts.length → ts.length - i < m → (ts.take i).flatten.length ≤ 8 * i → (∀ t, t ∈ ts.take i → t.length ≤ 8 ∧ (zww n 1000 t).2 = 0) →
      ∃ o,zes k n ts m (i:Int) (ts.take i).flatten (ts.take i).flatten.length=some o∧(o=.inl false∨(o=.inr (ts.flatten,ts.flatten.length)∧ts.flatten.length≤16∧∀ t,t∈ts→t.length≤8∧(zww n 1000 t).2=0)):=by
    intro m
    induction m with
    |zero=>intro i h1 h2;omega
    |succ m ih =>
      intro i h1 hm hl hall;rw [zes];by_cases c:i<ts.length
      · have hok:=hts _ (List.getElem_mem c);rw [if_pos (zam c),if_pos ⟨by omega,zam c⟩,zea c,yjn _ 8 hok hk,Option.bind_some,zbm i (by omega)]
        cases hf:fewT ts[i] 8 with
        |false=>rw [if_neg (by simp)];exact ⟨_,rfl,.inl rfl⟩
        |true =>
          have h8:=yj5 hf;rw [if_pos rfl,yak n 1000 _ hok hk,Option.bind_some];by_cases c2:(zww n 1000 ts[i]).2=0
          · have hstep:(ts.take (i+1)).flatten=(ts.take i).flatten++ts[i]:=by
              rw [List.take_add_one,List.getElem?_eq_getElem c,Option.toList_some,List.flatten_append];simp
            have:=ih (i+1) (by omega) (by omega) (by rw [hstep,List.length_append];omega) (fun t ht=>by
              rw [List.take_add_one,List.getElem?_eq_getElem c,Option.toList_some] at ht;rcases List.mem_append.1 ht with x|x
              · exact hall t x
              · cases List.mem_singleton.1 x;exact ⟨h8,c2⟩)
            rw [hstep] at this;rw [if_neg (fun h=>h c2),if_pos (by omega)];by_cases cz:(ts[i]).length=0
            · rw [if_pos cz];have ez:=List.eq_nil_of_length_eq_zero cz;rw [ez,List.append_nil] at this;exact this
            · rw [if_neg cz];rw [List.length_append] at this;exact this
          · rw [if_pos c2];exact ⟨_,rfl,.inl rfl⟩
      · obtain rfl:i=ts.length:=by omega
        rw [if_neg (by omega)];rw [List.take_length] at hl hall ⊢;exact ⟨_,rfl,.inr ⟨rfl,by omega,hall⟩⟩
  obtain ⟨b0,e0,hb0⟩:=ylq hk n hn;unfold zoc;rw [e0,Option.bind_some]
  cases b0 with
  |true=>exact ⟨false,by rw [if_pos rfl],fun h=>by cases h⟩
  |false =>
    obtain ⟨o,e,ho⟩:=key k 0 (Nat.zero_le _) (by simp only [big] at hk;omega) (by simp) (fun t ht=>by simp at ht);rw [if_neg (by simp)];change zes k n ts k 0 [] 0=some o at e;rw [e,Option.bind_some];rcases ho with rfl|⟨rfl,h16,hall⟩
    · exact ⟨false,rfl,fun h=>by cases h⟩
    · obtain ⟨b,eb,hb⟩:=yai (k:=k) (t:=ts.flatten) (by omega) hk;refine ⟨b,?_,fun h=>⟨hb0 rfl,hall,hb h⟩⟩;rw [Sum.elim_inr,if_pos rfl,eb];rfl
end
section
open Go Go.RowKit
def hR (k:Nat) (t:List Rule) (i:Nat):Ar 10×Bool:=(zuf k t (i:Int)).getD (zA 10,false)
def keepI (f:Nat→Bool) (i:Nat):List Int:=((List.range i).filter f).map fun j:Nat=>(j:Int)
def gone (k:Nat) (t:List Rule):List Int:=keepI (fun j=>!(hR k t j).2) t.length
theorem zkl {k:Nat} {a b:Ar 10} (ha:zab a=true) (hb:zab b=true) (hk:10<k):∃ c,zcu k a b=some c∧Cmp a b c:=by
  have key:∀ m j,j≤10→10 - j<m→(∀ i,i<j→hw a i=hw b i)→∃ o,zbg k a.l b.l m (j:Int)=some o∧((∃ c,o=.inl c∧Cmp a b c)∨(o=.inr ()∧a=b)):=by
    intro m
    induction m with
    |zero=>intro j h1 h2;omega
    |succ m ih =>
      intro j h1 h2 h3;rw [zbg,a.h,b.h];by_cases c:j<10
      · obtain ⟨a1,a2⟩:=zbh ha c;obtain ⟨b1,b2⟩:=zbh hb c;rw [if_pos (by omega),if_pos ⟨by omega,by omega⟩,if_neg (by omega),if_pos ⟨by omega,by omega⟩,a1,b1,zbm j (by omega)]
        have ec:zez k (hw a j:Int) (hw b j:Int)=some (if hw a j<hw b j then -1 else if hw b j<hw a j then 1 else 0):=by
          unfold zez zga;simp only [Option.bind_some,ne_eq,not_true_eq_false,decide_false,Bool.false_eq_true,if_false];by_cases c1:hw a j<hw b j
          · rw [if_pos (zam c1),if_pos c1]
          · rw [if_neg (by omega),if_neg c1];by_cases c2:hw b j<hw a j
            · rw [if_pos (zam c2),if_pos c2]
            · rw [if_neg (by omega),if_neg c2]
        rw [ec,Option.bind_some];by_cases c1:hw a j<hw b j
        · rw [if_pos c1,if_pos (by decide)];exact ⟨_,rfl,.inl ⟨_,rfl,.inl ⟨rfl,zol ha hb c h3 c1⟩⟩⟩
        · rw [if_neg c1];by_cases c2:hw b j<hw a j
          · rw [if_pos c2,if_pos (by decide)];exact ⟨_,rfl,.inl ⟨_,rfl,.inr (.inl ⟨rfl,zol hb ha c (fun i hi=>(h3 i hi).symm) c2⟩)⟩⟩
          · rw [if_neg c2,if_neg (by decide)]
            exact ih (j+1) (by omega) (by omega) fun i hi=>by
              by_cases e:i<j
              · exact h3 i e
              · obtain rfl:i=j:=by omega
                omega
      · obtain rfl:j=10:=by omega
        rw [if_neg (by decide)];refine ⟨_,rfl,.inr ⟨rfl,zrm ha hb fun i hi=>?_⟩⟩;unfold hbit;rw [h3 (i / 16) (by omega)]
  obtain ⟨o,e,h⟩:=key k 0 (by omega) (by omega) (fun i hi=>by omega);unfold zcu zei;rw [show ((0:Nat):Int)=0 from rfl] at e;rw [e,Option.bind_some];rcases h with ⟨c,rfl,h⟩|⟨rfl,h⟩
  · exact ⟨c,rfl,h⟩
  · rw [Sum.elim_inr,a.h,b.h,if_neg (by decide)];exact ⟨0,rfl,.inr (.inr ⟨rfl,h⟩)⟩
end
section
open Go Go.RowKit
set_option maxRecDepth 100000
set_option maxHeartbeats 4000000 in
theorem zvh (ax:Axs) (hx:NoAx ax) (l:List Rule) (hl:l.length*201≤1000000000):Call Tryz.prog (EE ax) [] 73 [zao l] ts0 (.arr 0 23 0 l.length l.length (l.length*23)) (stL [.cells false (l.length*23) (vecC zas l)]):=by
  refine Call.enter (fn:=Tryz.f73) 8 (hx.no _ (by decide)) (fn73 ax) rfl Tryz.ntmps73 (by decide) (by simp) (Nat.zero_le _) (by rfl) ?_;simp only [zme,zo7,Nat.reduceAdd]
  cases l with
  |nil =>
    refine TW.lst0 0 23 (by omega) (by rfl) ?_ ?_
    · rw [zr2];repeat apply TW.seq
      apply TW.region (zf2 ax) [] []
      · kernel_rfl
      · simp (disch:=first|omega|decide | (simp only [lzA,Nat.reduceAdd,Nat.reduceLT];done)|fail) only [b0,b1,b2,b3,b4,b5,b6,b7,b8,Nat.reduceAdd,Nat.reduceEqDiff,Nat.reduceMul,reduceIte,reduceCtorEq,eqA,eqB,eqsA,eqsB,ti28 ax,el28,sr28,tNil,tBin,zb4,zaf,apA,tSrc,zaw,zbr,zcv,zgs,zck,List.replicate,List.flatten_nil,ze2,zcz,ze1,ze4,zc0,ze3,Bool.or_true,Bool.true_or,Bool.false_or,Bool.or_self];with_reducible rfl
      · exact trivial
      simp only [onT,onTB];repeat apply TW.seq
      apply TW.region (zf2 ax) [] []
      · kernel_rfl
      · simp (disch:=first|omega|decide | (simp only [lzA,Nat.reduceAdd,Nat.reduceLT];done)|fail) only [b0,b1,b2,b3,b4,b5,b6,b7,b8,Nat.reduceAdd,Nat.reduceEqDiff,Nat.reduceMul,reduceIte,reduceCtorEq,eqA,eqB,eqsA,eqsB,ti28 ax,el28,sr28,tNil,tBin,zb4,zaf,apA,tSrc,zaw,zbr,zcv,zgs,zck,List.replicate,List.flatten_nil,ze2,zcz,ze1,ze4,zc0,ze3,Bool.or_true,Bool.true_or,Bool.false_or,Bool.or_self];with_reducible rfl
      · exact trivial
      simp only [onT,onTB];repeat apply TW.seq
      refine TW.cond (b:=true) ?_ ?_
      · simp only [zo0,zik,zk2,zbs,Nat.reduceEqDiff,reduceIte,Bool.and_self]
      simp only [cond_true,cond_false];repeat apply TW.seq
      apply TW.region (zf2 ax) [] []
      · kernel_rfl
      · simp (disch:=first|omega|decide | (simp only [lzA,Nat.reduceAdd,Nat.reduceLT];done)|fail) only [b0,b1,b2,b3,b4,b5,b6,b7,b8,Nat.reduceAdd,Nat.reduceEqDiff,Nat.reduceMul,reduceIte,reduceCtorEq,eqA,eqB,eqsA,eqsB,ti28 ax,el28,sr28,tNil,tBin,zb4,zaf,apA,tSrc,zaw,zbr,zcv,zgs,zck,List.replicate,List.flatten_nil,ze2,zcz,ze1,ze4,zc0,ze3,Bool.or_true,Bool.true_or,Bool.false_or,Bool.or_self];with_reducible rfl
      · exact trivial
      simp only [onT,onTB];refine TW.vec 2 23 (by first|rfl | (simp only [zbs,Nat.reduceEqDiff,reduceIte];done)) ?_;rw [z37];simp only [scB,Nat.reduceAdd];apply TW.ret;exact ⟨.inr rfl,_,rfl,_,zup.refl _ _,zpy.one (by simp only [zb3,idsA,idsB,Bool.and_self])⟩
    · rw [zr2];repeat apply TW.seq
      apply TW.region (zf2 ax) [] []
      · kernel_rfl
      · simp (disch:=first|omega|decide | (simp only [lzA,Nat.reduceAdd,Nat.reduceLT];done)|fail) only [b0,b1,b2,b3,b4,b5,b6,b7,b8,Nat.reduceAdd,Nat.reduceEqDiff,Nat.reduceMul,reduceIte,reduceCtorEq,eqA,eqB,eqsA,eqsB,ti28 ax,el28,sr28,tNil,tBin,zb4,zaf,apA,tSrc,zaw,zbr,zcv,zgs,zck,List.replicate,List.flatten_nil,ze2,zcz,ze1,ze4,zc0,ze3,Bool.or_true,Bool.true_or,Bool.false_or,Bool.or_self];with_reducible rfl
      · exact trivial
      simp only [onT,onTB];repeat apply TW.seq
      apply TW.region (zf2 ax) [] []
      · kernel_rfl
      · simp (disch:=first|omega|decide | (simp only [lzA,Nat.reduceAdd,Nat.reduceLT];done)|fail) only [b0,b1,b2,b3,b4,b5,b6,b7,b8,Nat.reduceAdd,Nat.reduceEqDiff,Nat.reduceMul,reduceIte,reduceCtorEq,eqA,eqB,eqsA,eqsB,ti28 ax,el28,sr28,tNil,tBin,zb4,zaf,apA,tSrc,zaw,zbr,zcv,zgs,zck,List.replicate,List.flatten_nil,ze2,zcz,ze1,ze4,zc0,ze3,Bool.or_true,Bool.true_or,Bool.false_or,Bool.or_self];with_reducible rfl
      · exact trivial
      simp only [onT,onTB];repeat apply TW.seq
      refine TW.cond (b:=false) ?_ ?_
      · simp only [zo0,zik,zk2,zbs,Nat.reduceEqDiff,reduceIte,Bool.false_and,Bool.and_self]
      simp only [cond_true,cond_false];repeat apply TW.seq
      apply TW.skip;simp only [onT,onTB];repeat apply TW.seq
      apply TW.region (zf2 ax) [5] []
      · kernel_rfl
      · simp (disch:=first|omega|decide | (simp only [lzA,Nat.reduceAdd,Nat.reduceLT];done)|fail) only [b0,b1,b2,b3,b4,b5,b6,b7,b8,Nat.reduceAdd,Nat.reduceEqDiff,Nat.reduceMul,reduceIte,reduceCtorEq,eqA,eqB,eqsA,eqsB,ti28 ax,el28,sr28,tNil,tBin,zb4,zaf,apA,tSrc,zaw,zbr,zcv,zgs,zck,List.replicate,List.flatten_nil,ze2,zcz,ze1,ze4,zc0,ze3,Bool.or_true,Bool.true_or,Bool.false_or,Bool.or_self];with_reducible rfl
      · exact trivial
      simp only [onT,onTB];refine TW.unz 0 (by rfl) ?_;rw [zhy _ _ _ (by simp only [lzA]<;>omega)];simp only [scA];apply TW.ret;exact ⟨.inr rfl,_,rfl,_,zup.refl _ _,zpy.one (by simp only [zb3,idsA,idsB,Bool.and_self])⟩
  |cons x r =>
    have hn:∀ S:TS,tNil S (.slice 44) (T.lst 23 ((x :: r).map zas))=some false:=fun _=>rfl;have hn0:∀ S:TS,tNil S (.slice 44) .nils=some true:=fun _=>rfl;have hb0:Nat.ble (x :: r).length 0=false:=rfl;have hb1:Nat.blt 0 (x :: r).length=true:=rfl;generalize x :: r=L at hl hn hb0 hb1 ⊢;rw [zr2];repeat apply TW.seq
    apply TW.region (zf2 ax) [] []
    · kernel_rfl
    · simp (disch:=first|omega|decide | (simp only [lzA,Nat.reduceAdd,Nat.reduceLT];done)|fail) only [b0,b1,b2,b3,b4,b5,b6,b7,b8,Nat.reduceAdd,Nat.reduceEqDiff,Nat.reduceMul,reduceIte,reduceCtorEq,eqA,eqB,eqsA,eqsB,ti28 ax,el28,sr28,tBin,zb4,zaf,apA,tSrc,zaw,zbr,zcv,zgs,zck,List.replicate,List.flatten_nil,ze2,zcz,ze1,ze4,zc0,ze3,Bool.or_true,Bool.true_or,Bool.false_or,Bool.or_self,zew zas L,zc7 (f:=zas) (e:=23) (fun x=>zba x) L,zd1 (f:=zas) (fun x=>zg4 x) L,hn,hn0,hb0,hb1,cond_true,cond_false];with_reducible rfl
    · exact trivial
    simp only [onT,onTB];repeat apply TW.seq
    apply TW.region (zf2 ax) [] []
    · kernel_rfl
    · simp (disch:=first|omega|decide | (simp only [lzA,Nat.reduceAdd,Nat.reduceLT];done)|fail) only [b0,b1,b2,b3,b4,b5,b6,b7,b8,Nat.reduceAdd,Nat.reduceEqDiff,Nat.reduceMul,reduceIte,reduceCtorEq,eqA,eqB,eqsA,eqsB,ti28 ax,el28,sr28,tBin,zb4,zaf,apA,tSrc,zaw,zbr,zcv,zgs,zck,List.replicate,List.flatten_nil,ze2,zcz,ze1,ze4,zc0,ze3,Bool.or_true,Bool.true_or,Bool.false_or,Bool.or_self,zew zas L,zc7 (f:=zas) (e:=23) (fun x=>zba x) L,zd1 (f:=zas) (fun x=>zg4 x) L,hn,hn0,hb0,hb1,cond_true,cond_false];with_reducible rfl
    · exact trivial
    simp only [onT,onTB];repeat apply TW.seq
    refine TW.cond (b:=false) ?_ ?_
    · simp only [zo0,zik,zk2,zbs,Nat.reduceEqDiff,reduceIte,Bool.false_and,Bool.and_self]
    simp only [cond_true,cond_false];repeat apply TW.seq
    apply TW.skip;simp only [onT,onTB];repeat apply TW.seq
    apply TW.region (zf2 ax) [5] []
    · kernel_rfl
    · simp (disch:=first|omega|decide | (simp only [lzA,Nat.reduceAdd,Nat.reduceLT];done)|fail) only [b0,b1,b2,b3,b4,b5,b6,b7,b8,Nat.reduceAdd,Nat.reduceEqDiff,Nat.reduceMul,reduceIte,reduceCtorEq,eqA,eqB,eqsA,eqsB,ti28 ax,el28,sr28,tBin,zb4,zaf,apA,tSrc,zaw,zbr,zcv,zgs,zck,List.replicate,List.flatten_nil,ze2,zcz,ze1,ze4,zc0,ze3,Bool.or_true,Bool.true_or,Bool.false_or,Bool.or_self,zew zas L,zc7 (f:=zas) (e:=23) (fun x=>zba x) L,zd1 (f:=zas) (fun x=>zg4 x) L,hn,hn0,hb0,hb1,cond_true,cond_false];with_reducible rfl
    · exact trivial
    simp only [onT,onTB];apply TW.ret;exact ⟨.inr rfl,_,rfl,_,zup.refl _ _,zpy.one (by simp only [zb3,idsA,idsB,Bool.and_self])⟩
end
end Go.Proofs.YtjgbkegkcbcjaaaGreat
