/- Part 10 of the proof of TableEncodes (several texts in one; no further condition). -/
import Derived.Test.YtjgbkegkcbcjaaaGreatZF
import Derived.Test.YtjgbkegkcbcjaaaGreatZI
import Derived.Test.YtjgbkegkcbcjaaaGreatZH
set_option linter.unusedSimpArgs false
set_option linter.unusedVariables false
set_option linter.unusedSectionVars false
namespace Go.Proofs.YtjgbkegkcbcjaaaGreat
section
open Go Go.RowKit
set_option maxRecDepth 100000
def ze2 (k:Nat) (t:List Rule) (k_:Int):Nat→Int→Option (Bool ⊕ Unit)
 |0,_=>none
 |m+1,i=>(if i<(((gx t k_).outs).length:Int) then (if (0:Int)≤i∧i<(((gx t k_).outs).length:Int) then (if 10<((gx ((gx t k_).outs) i).length:Int) then some (.inl false) else ze2 k t k_ m (IntKind.i64.wrap (i+1))) else none) else some (.inr ()))
def ze3 (k:Nat) (t:List Rule):Nat→Int→Option (Bool ⊕ Unit)
 |0,_=>none
 |m+1,k_=>(if k_<(t.length:Int) then (((if (0:Int)≤k_∧k_<(t.length:Int) then (if 20<(((gx t k_).outs).length:Int) then some (.inl false) else ((ze2 k t k_ k 0:Option (Bool ⊕ Unit)).bind fun o=>Sum.elim (fun r=>some (.inl r)) (fun s_3=>some (.inr ())) o)) else none):Option (Bool ⊕ Unit)).bind fun o2=>Sum.elim (fun r=>some (.inl r)) (fun s_2=>ze3 k t m (IntKind.i64.wrap (k_+1))) o2) else some (.inr ()))
def zmq (k:Nat) (t:List Rule) (most:Int):Option Bool:=((ze3 k t k 0:Option (Bool ⊕ Unit)).bind fun o3=>Sum.elim (fun r=>some r) (fun s_=>some (decide ((t.length:Int)≤most))) o3)
set_option maxHeartbeats 8000000 in
theorem zqc (ax:Axs) (hx:zb7 ax) (k:Nat) (t:List Rule) (most:Int) (v:Bool) (H:zmq k t most=some v):Pure Tryz.prog (EE ax) [] 11 [zat t,.int .i64 most] (.bool v):=by
 rw [zmq] at H;refine en [.tmp 4] 44 [0,1] (hx.no _ (by decide)) (fn11 ax) ?_;intro h hh;repeat apply TW.seq
 refine rk [0,1] [] hh ?_;clear hh h;intro h hh;repeat apply TW.seq
 refine rk [0,1,5] [] hh ?_;clear hh h;intro h hh;obtain ⟨o3,H1,H⟩:=zad H;repeat apply TW.seq
 refine cu [0,1] 0 (fun h bs=>∃ s_:Unit,o3=.inr s_∧(h 0=zat t∧h 1=.int .i64 most)∧bs=[]) ?_ ?_
 ·skip;repeat apply TW.seq
  apply TW.block;repeat apply TW.seq
  refine TW.loopT [0,1,5] (fun m h bs=>∃ (k_:Int),ze3 k t m k_=some o3∧(h 0=zat t∧h 1=.int .i64 most∧h 5=.int .i64 k_)∧bs=[]) ?_ k _ _ ?_;rotate_left
  ·exact ⟨0,H1,kq hh,rfl⟩
  clear hh h H1;rintro m h bs ⟨k_,H1,hh,rfl⟩;rcases m with _|m
  ·rw [ze3] at H1;cases H1
  rw [ze3] at H1;repeat apply TW.seq
  refine rk [0,1,5,10] [] hh ?_;clear hh h;intro h hh;rcases isp H1 with ⟨c1,H1⟩|⟨c1,H1⟩;rotate_left
  ·skip;repeat apply TW.seq
   refine cf (f2 hh (decide_eq_false c1)) ?_;refine xk ?_;cases H1;exact ce hh ⟨_,rfl,kq hh,rfl⟩
  repeat apply TW.seq
  refine ct (f2 hh (decide_eq_true c1)) ?_;repeat apply TW.seq
  refine sk ?_;obtain ⟨o2,H2,H1⟩:=zad H1;repeat apply TW.seq
  refine cu [0,1,5] 0 (fun h bs=>∃ s_2:Unit,o2=.inr s_2∧(h 0=zat t∧h 1=.int .i64 most∧h 5=.int .i64 k_)∧bs=[]) ?_ ?_
  ·skip;repeat apply TW.seq
   apply TW.block;obtain ⟨g2,H2⟩:=isg H2;repeat apply TW.seq
   refine rk [0,1,5,19] [] (f2 hh (za7 g2)) ?_;clear hh h;intro h hh;rcases isp H2 with ⟨c3,H2⟩|⟨c3,H2⟩;rotate_left
   ·skip;repeat apply TW.seq
    refine cf (f2 hh (decide_eq_false c3)) ?_;repeat apply TW.seq
    refine sk ?_;repeat apply TW.seq
    refine rk [0,1,5,6] [] hh ?_;clear hh h;intro h hh;obtain ⟨o,H3,H2⟩:=zad H2;repeat apply TW.seq
    refine cu [0,1,5] 0 (fun h bs=>∃ s_3:Unit,o=.inr s_3∧(h 0=zat t∧h 1=.int .i64 most∧h 5=.int .i64 k_)∧bs=[]) ?_ ?_
    ·skip;repeat apply TW.seq
     apply TW.block;repeat apply TW.seq
     refine TW.loopT [0,1,5,6] (fun m h bs=>∃ (i:Int),ze2 k t k_ m i=some o∧(h 0=zat t∧h 1=.int .i64 most∧h 5=.int .i64 k_∧h 6=.int .i64 i)∧bs=[]) ?_ k _ _ ?_;rotate_left
     ·exact ⟨0,H3,kq hh,rfl⟩
     clear hh h H3;rintro m h bs ⟨i,H3,hh,rfl⟩;rcases m with _|m
     ·rw [ze2] at H3;cases H3
     rw [ze2] at H3;repeat apply TW.seq
     refine rk [0,1,5,6,27] [] (f2 hh (za7 g2)) ?_;clear hh h;intro h hh;rcases isp H3 with ⟨c4,H3⟩|⟨c4,H3⟩;rotate_left
     ·skip;repeat apply TW.seq
      refine cf (f2 hh (decide_eq_false c4)) ?_;refine xk ?_;cases H3;exact ce hh ⟨_,rfl,kq hh,rfl⟩
     repeat apply TW.seq
     refine ct (f2 hh (decide_eq_true c4)) ?_;repeat apply TW.seq
     refine sk ?_;repeat apply TW.seq
     apply TW.block;obtain ⟨g5,H3⟩:=isg H3;repeat apply TW.seq
     refine rk [0,1,5,6,39] [] (f3 hh (za7 g2) (za7 g5)) ?_;clear hh h;intro h hh;rcases isp H3 with ⟨c6,H3⟩|⟨c6,H3⟩;rotate_left
     ·skip;repeat apply TW.seq
      refine cf (f2 hh (decide_eq_false c6)) ?_;repeat apply TW.seq
      refine sk ?_;repeat apply TW.seq
      refine rk [0,1,5,6] [] hh ?_;clear hh h;intro h hh;exact rd m hh ⟨(IntKind.i64.wrap (i+1)),H3,kq hh,rfl⟩
     repeat apply TW.seq
     refine ct (f2 hh (decide_eq_true c6)) ?_;repeat apply TW.seq
     refine rk [4] [] hh ?_;clear hh h;intro h hh;cases H3;obtain rfl:=sinm H2;obtain rfl:=sinm H1;obtain rfl:=sinl H;exact rt hh
    clear hh h;rintro h bs ⟨s_3,rfl,hh,rfl⟩;replace H2:=sinr H2;cases H2;exact ce hh ⟨_,rfl,kq hh,rfl⟩
   repeat apply TW.seq
   refine ct (f2 hh (decide_eq_true c3)) ?_;repeat apply TW.seq
   refine rk [4] [] hh ?_;clear hh h;intro h hh;cases H2;obtain rfl:=sinm H1;obtain rfl:=sinl H;exact rt hh
  clear hh h;rintro h bs ⟨s_2,rfl,hh,rfl⟩;replace H1:=sinr H1;repeat apply TW.seq
  refine rk [0,1,5] [] hh ?_;clear hh h;intro h hh;exact rd m hh ⟨(IntKind.i64.wrap (k_+1)),H1,kq hh,rfl⟩
 clear hh h;rintro h bs ⟨s_,rfl,hh,rfl⟩;replace H:=sinr H;repeat apply TW.seq
 refine rk [4] [] hh ?_;clear hh h;intro h hh;cases H;exact rt hh
end
section
open Go Go.RowKit
set_option maxRecDepth 100000
end
section
open Go Go.RowKit
/-! bits of words -/
/-! heads -/
def hw (h:Ar 10) (i:Nat):Nat:=(gx h.l (i:Int)).toNat
def hbit (h:Ar 10) (i:Nat):Bool:=(hw h (i / 16)).testBit (15 - i % 16)
theorem yga {n:Nat} {a b:Ar n} (h:∀ j:Nat,j<n→gx a.l (j:Int)=gx b.l (j:Int)):a=b:=by
  apply Ar.ext';apply List.ext_getElem (by rw [a.h,b.h]);intro i h1 h2;have:=h i (by rw [← a.h];exact h1)
  rwa [zfi h1,zfi h2] at this
/-! one bit -/
/-! matching -/
/-! rewriting -/
theorem z0p {n:Nat} {a:Ar n} {i:Nat} (v:Int) (hi:i<n):gx (a.set (i:Int) v).l (i:Int)=v:=by
  show (a.l.set i v).getD i default=v;rw [List.getD_eq_getElem?_getD,List.getElem?_set_self (by rw [a.h];exact hi)];rfl
theorem z9g {n:Nat} {a:Ar n} {i j:Nat} (v:Int) (hj:j<n) (h:i≠j):gx (a.set (i:Int) v).l (j:Int)=gx a.l (j:Int):=by
  show (a.l.set i v).getD j default=a.l.getD j default;rw [List.getD_eq_getElem?_getD,List.getD_eq_getElem?_getD,List.getElem?_set_ne h]
end
section
open Go Go.RowKit WM
set_option maxRecDepth 100000
def pInt (c:Int→Int):Ps Int:=fun l=>match dec l with
  |.error e=>.error e
  |.ok (n,u)=>if c n≠0 then .error (c n) else .ok (n,u)
theorem z71:pInt (fun _=>0)=dec:=by
  funext l;unfold pInt
  cases dec l with
  |error e=>rfl
  |ok q=>obtain ⟨n,u⟩:=q;dsimp only;rw [if_neg (by simp)]
def cntC (most:Int) (n:Int):Int:=if n<0 then 6 else if most<n then 2 else 0
theorem z2n (most:Nat):pInt (cntC most)=mapP (fun n:Nat=>(n:Int)) (pC most):=by
  funext l;unfold pInt mapP pC cntC
  cases dec l with
  |error e=>rfl
  |ok q =>
    obtain ⟨n,u⟩:=q;dsimp only;by_cases c1:n<0
    · rw [if_pos c1,if_pos c1,if_pos (by decide)]
    · rw [if_neg c1,if_neg c1];by_cases c2:(most:Int)<n
      · rw [if_pos c2,if_pos c2,if_pos (by decide)]
      · rw [if_neg c2,if_neg c2,if_neg (by decide)];dsimp only;rw [show ((n.toNat:Nat):Int)=n by omega]
section
variable {k:Nat}
theorem z2j (hk:big≤k) {F:Fs Int} (c:Int→Int) (hF:∀ x e,F x e=(if e≠0 then some (0,x,e) else ((zbh k x).bind fun r=>(((if r.2.2=0 then some (c r.1) else some r.2.2):Option Int).bind fun s_=>(if s_≠0 then some (0,x,s_) else (if (0:Int)≤r.2.1∧r.2.1≤(x.length:Int) then some (r.1,x.drop r.2.1.toNat,s_) else none)))))):Rdr F (pInt c) (fun _=>True) where
  ok:=fun l x u hl hp=>by
    unfold pInt at hp;split at hp
    · cases hp
    · rename_i n u1 h1;split at hp
      · cases hp
      · rename_i h2;cases hp;have hu:=(zgq h1).2.2.1;rw [hF,if_neg (by simp),(wget hk l hl).1,h1,Option.bind_some];unfold resD;dsimp only;rw [if_pos rfl,Option.bind_some,if_neg h2,if_pos (by rw [zd3];omega),show ((u:Int)).toNat=u by omega,zjz,Classical.not_not.1 h2];exact ⟨rfl,trivial⟩
  err:=fun l e hl hp=>by
    unfold pInt at hp;split at hp
    · rename_i e' h1;cases hp;have:=zoa h1;refine ⟨by omega,0,l,?_,hl,trivial⟩;rw [hF,if_neg (by simp),(wget hk l hl).1,h1,Option.bind_some];unfold resD;dsimp only;rw [if_neg (by omega),Option.bind_some,if_pos (by omega)]
    · rename_i n u1 h1;split at hp
      · rename_i h2;cases hp;refine ⟨h2,0,l,?_,hl,trivial⟩;rw [hF,if_neg (by simp),(wget hk l hl).1,h1,Option.bind_some];unfold resD;dsimp only;rw [if_pos rfl,Option.bind_some,if_pos h2]
      · cases hp
  stay:=fun l e hl he=>⟨0,l,by rw [hF,if_pos he],hl,trivial⟩
theorem yja (hk:big≤k):Rdr (zco k) dec (fun _=>True):=by
  rw [← z71];refine z2j hk (fun _=>0) fun x e=>?_;unfold zco zgg;rfl
theorem yhc (hk:big≤k) (most:Nat):Rdr (zc1 k (most:Int)) (mapP (fun n:Nat=>(n:Int)) (pC most)) (fun _=>True):=by
  rw [← z2n];refine z2j hk (cntC most) fun x e=>?_;unfold zc1 zey cntC;split
  · rfl
  · congr 1;funext r;by_cases c1:r.1<0
    · simp only [if_pos c1];rfl
    · by_cases c2:(most:Int)<r.1
      · simp only [if_neg c1,if_pos c2];rfl
      · simp only [if_neg c1,if_neg c2];rfl
theorem yjc (hk:big≤k) (most:Nat):Rdr (zdh k (most:Int)) (mapP (fun n:Nat=>(n:Int)) (pC most)) (fun _=>True):=yhc hk most
theorem yjb (hk:big≤k) (most:Nat):Rdr (zdg k (most:Int)) (mapP (fun n:Nat=>(n:Int)) (pC most)) (fun _=>True):=yhc hk most
theorem z0s {l:List UInt8} {xs:List Int} {u:Nat} (h:getL dec 1 l=.ok (xs,u)):u≤l.length:=(zt6 zzb h).2
theorem z3q {l:List UInt8} {e:Int} (h:getL dec 1 l=.error e):e≠0:=by
  unfold getL at h;split at h
  · rename_i h1;cases h;have:=zvo h1;omega
  · rename_i n u h1
    have key:∀ (r:Nat) (l:List UInt8) (e:Int),many dec r l=.error e→e≠0:=by
      intro r
      induction r with
      |zero=>intro l e h;cases h
      |succ r ih =>
        intro l e h;rw [many] at h;split at h
        · rename_i h2;cases h;have:=zoa h2;omega
        · split at h
          · rename_i h3;cases h;exact ih _ _ h3
          · cases h
    split at h
    · rename_i h2;cases h;exact key _ _ _ h2
    · cases h
theorem yee (hk:big≤k) {n:Nat} (h0:0<n) (h10:n≤10):Rdr (zal k (n:Int)) (pIs n) (fun v=>v.length=n) where
  ok:=fun l x u hl hp=>by
    unfold pIs at hp;split at hp
    · cases hp
    · rename_i xs u1 h1;split at hp
      · rename_i h2;cases hp;have hu:=z0s h1;unfold zal zby zcv;rw [if_neg (by simp),(zf8 hk l hl).1,h1,Option.bind_some];unfold resL;dsimp only;rw [if_pos rfl,if_neg (by omega),Option.bind_some,Option.bind_some,if_neg (by simp),if_pos (by rw [zd3];omega),Option.bind_some];dsimp only;rw [if_pos (show (some x).isSome=true from rfl)];dsimp only [Option.getD_some];rw [if_pos (by omega),show ((u:Int)).toNat=u by omega,zjz];exact ⟨rfl,h2⟩
      · cases hp
  err:=fun l e hl hp=>by
    have fin:∀ e:Int,(0:Int)≤(n:Int)∧((n:Int)).toNat*9≤1000000000:=fun e=>by omega
    unfold pIs at hp;split at hp
    · rename_i e' h1;cases hp;have he:=z3q h1;refine ⟨he,List.replicate n 0,l,?_,hl,List.length_replicate⟩;unfold zal zby;rw [if_neg (by simp),(zf8 hk l hl).1,h1,Option.bind_some];unfold resL;dsimp only;rw [if_neg he,Option.bind_some,if_pos he,Option.bind_some];dsimp only;rw [if_neg (by simp),if_pos (fin 0),show ((n:Int)).toNat=n by omega]
    · rename_i xs u1 h1;split at hp
      · cases hp
      · rename_i h2;cases hp;refine ⟨by decide,List.replicate n 0,l,?_,hl,List.length_replicate⟩;unfold zal zby zcv;rw [if_neg (by simp),(zf8 hk l hl).1,h1,Option.bind_some];unfold resL;dsimp only;rw [if_pos rfl,if_pos (by omega),Option.bind_some,Option.bind_some,if_pos (by decide),Option.bind_some];dsimp only;rw [if_neg (by simp),if_pos (fin 0),show ((n:Int)).toNat=n by omega]
  stay:=fun l e hl he=>by
    refine ⟨List.replicate n 0,l,?_,hl,List.length_replicate⟩;unfold zal zby;rw [if_pos he,Option.bind_some];dsimp only;rw [if_neg (by simp),if_pos (by omega),show ((n:Int)).toNat=n by omega]
theorem z2l (hk:big≤k):Rdr (zam k) pH (fun _=>True):=((yee hk (n:=10) (by decide) (by decide)).map (cpL (zA 10))).to fun x e=>by unfold zam mapF;rfl
theorem p_alt (hk:big≤k):Rdr (zck k) pA (fun _=>True):=(((yja hk).seq ((z2l hk).seq (z2l hk))).map fun x=>(⟨x.1,⟨x.2.1,x.2.2⟩⟩:Alt)).to fun x e=>by
  unfold zck mapF seqF
  cases zco k x e with
  |none=>rfl
  |some r =>
    simp only [Option.bind_some]
    cases zam k r.2.1 r.2.2 with
    |none=>rfl
    |some s =>
      simp only [Option.bind_some]
      cases zam k s.2.1 s.2.2 with
      |none=>rfl
      |some t=>rfl
theorem p_out (hk:big≤k):Rdr (zc6 k) pO (fun _=>True):=by
  have h:Rdr (zbs k ((8:Nat):Int)) pO (fun _=>True):=Rdr.cnt (k:=k) (C:=zdg k ((8:Nat):Int)) (L:=fun _=>za3 k) (yjb hk 8) (by decide) hk (p_alt hk)
    (fun N m r x acc n h1 h2 h3=>by
      rw [za3,if_pos (by omega),Option.bind_some,if_pos (by decide),wi (x:=((r+1:Nat):Int) - 1) (by omega),show ((r+1:Nat):Int) - 1=(r:Int) by omega];congr 1;funext rb
      rw [if_pos (by omega)])
    (fun N m x acc n h=>by rw [za3,if_neg (by omega),Option.bind_some,if_neg (by simp)])
    (fun N m r x e acc n he=>by
      rw [za3,decide_eq_false he];by_cases c:0<r
      · rw [if_pos c,Option.bind_some,if_neg (by simp)]
      · rw [if_neg c,Option.bind_some,if_neg (by simp)])
    (fun x e=>by unfold zbs;rfl)
  refine h.to fun x e=>?_;unfold zc6;show (zbs k 8 x e).bind _=zbs k 8 x e
  cases zbs k 8 x e with
  |none=>rfl
  |some r=>rfl
theorem yi9 (hk : big ≤ k) : Rdr (zcp k 16) (pCnt 16 pO) (fun _ => True) := Rdr.cnt (k := k) (C := zdh k ((16 : Nat) : Int)) (L := fun _ => za0 k) (yjc hk 16) (by decide) hk (p_out hk)
    (fun N m r x acc n h1 h2 h3=>by
      rw [za0,if_pos (by omega),Option.bind_some,if_pos (by decide),wi (x:=((r+1:Nat):Int) - 1) (by omega),show ((r+1:Nat):Int) - 1=(r:Int) by omega];congr 1;funext rb
      rw [if_pos (by omega)])
    (fun N m x acc n h=>by rw [za0,if_neg (by omega),Option.bind_some,if_neg (by simp)])
    (fun N m r x e acc n he=>by
      rw [za0,decide_eq_false he];by_cases c:0<r
      · rw [if_pos c,Option.bind_some,if_neg (by simp)]
      · rw [if_neg c,Option.bind_some,if_neg (by simp)])
    (fun x e=>by unfold zcp;rfl)
def two {F:Fs (List Int)}:Fs (List Int):=fun x e=>(F x e).bind fun rb=>(if (0:Int)≤0∧0<(rb.1.length:Int) then (if (0:Int)≤1∧1<(rb.1.length:Int) then some rb else none) else none)
theorem ydn {F:Fs (List Int)} {p:Ps (List Int)} (h:Rdr F p (fun v=>v.length=2)):Rdr (two (F:=F)) p (fun v=>v.length=2) where
  ok:=fun l x u hl hp=>by
    obtain ⟨a,b⟩:=h.ok l x u hl hp;refine ⟨?_,b⟩;unfold two;rw [a,Option.bind_some];dsimp only;rw [if_pos (by omega),if_pos (by omega)]
  err:=fun l e hl hp=>by
    obtain ⟨a0,v,l',a1,a2,a3⟩:=h.err l e hl hp;refine ⟨a0,v,l',?_,a2,a3⟩;unfold two;rw [a1,Option.bind_some];dsimp only;rw [if_pos (by omega),if_pos (by omega)]
  stay:=fun l e hl he=>by
    obtain ⟨v,l',a1,a2,a3⟩:=h.stay l e hl he;refine ⟨v,l',?_,a2,a3⟩;unfold two;rw [a1,Option.bind_some];dsimp only;rw [if_pos (by omega),if_pos (by omega)]
theorem yi8 (hk:big≤k):Rdr (zd5 k) pR (fun _=>True):=(((ydn (yee hk (n:=2) (by decide) (by decide))).seq ((z2l hk).seq ((z2l hk).seq (yi9 hk)))).map fun x=>(⟨gx x.1 0,⟨x.2.1,x.2.2.1⟩,gx x.1 1,x.2.2.2⟩:Rule)).to fun x e=>by
  unfold zd5 mapF seqF two;show (zal k 2 x e).bind _=_
  cases hq:zal k 2 x e with
  |none =>
    simp only [show zal k ((2:Nat):Int) x e=none from hq];rfl
  |some r =>
    simp only [show zal k ((2:Nat):Int) x e=some r from hq,Option.bind_some];by_cases c1:(0:Int)≤0∧0<(r.1.length:Int)
    · rw [if_pos c1,if_pos c1];by_cases c2:(0:Int)≤1∧1<(r.1.length:Int)
      · rw [if_pos c2,if_pos c2];simp only [Option.bind_some]
        cases zam k r.2.1 r.2.2 with
        |none=>rfl
        |some s =>
          simp only [Option.bind_some]
          cases zam k s.2.1 s.2.2 with
          |none=>rfl
          |some t =>
            simp only [Option.bind_some]
            cases zcp k 16 t.2.1 t.2.2 with
            |none=>rfl
            |some w=>rfl
      · rw [if_neg c2,if_neg c2];rfl
    · rw [if_neg c1,if_neg c1];rfl
theorem z0c (hk : big ≤ k) : Rdr (zdi k 4000) (pCnt 4000 pR) (fun _ => True) := Rdr.cnt (k := k) (C := zc1 k ((4000 : Nat) : Int)) (L := fun _ => zaz k) (yhc hk 4000) (by decide) hk (yi8 hk)
    (fun N m r x acc n h1 h2 h3=>by
      rw [zaz,if_pos (by omega),Option.bind_some,if_pos (by decide),wi (x:=((r+1:Nat):Int) - 1) (by omega),show ((r+1:Nat):Int) - 1=(r:Int) by omega];congr 1;funext rb
      rw [if_pos (by omega)])
    (fun N m x acc n h=>by rw [zaz,if_neg (by omega),Option.bind_some,if_neg (by simp)])
    (fun N m r x e acc n he=>by
      rw [zaz,decide_eq_false he];by_cases c:0<r
      · rw [if_pos c,Option.bind_some,if_neg (by simp)]
      · rw [if_neg c,Option.bind_some,if_neg (by simp)])
    (fun x e=>by unfold zdi;rfl)
def zkv (r:Except Int (List Rule)):List Rule×Int:=match r with
  |.ok t=>(t,0)
  |.error e=>([],e)
theorem yef {l:List UInt8} {e:Int} (h:pCnt 4000 pR l=.error e):pT l=.error e:=by unfold pT;rw [h]
theorem zoh (hk:big≤k) (l:List UInt8) (hl:l.length≤1000000):zfd k (bvi l)=some (zkv (pT l)):=by
  unfold zfd
  cases hp:pCnt 4000 pR l with
  |error e =>
    obtain ⟨a0,v,l',a1,a2,_⟩:=(z0c hk).err l e hl hp;rw [a1,Option.bind_some];dsimp only;rw [if_neg a0,Option.bind_some,if_neg (by simp),Option.bind_some,if_pos a0,yef hp];rfl
  |ok q =>
    obtain ⟨t,u⟩:=q;obtain ⟨a1,_⟩:=(z0c hk).ok l t u hl hp;rw [a1,Option.bind_some];dsimp only;rw [if_pos rfl,Option.bind_some];unfold pT;rw [hp];dsimp only;rw [zd3,List.length_drop];by_cases c:u<l.length
    · rw [if_pos c,if_pos (by rw [decide_eq_true_eq];omega),Option.bind_some,if_pos (by decide)];rfl
    · rw [if_neg c,if_neg (by rw [decide_eq_true_eq];omega),Option.bind_some,if_neg (by decide)];rfl
end
end
section
open Go Go.RowKit WM
set_option maxRecDepth 100000
section
variable {k:Nat}
theorem yi5 (hk:big≤k):Rdr (za5 k) dec (fun _=>True) where
  ok:=fun l x u hl hp=>by
    have hu:=(zgq hp).2.2.1;unfold za5 zae;rw [if_neg (by simp),(wget hk l hl).2,hp,Option.bind_some];unfold resD;dsimp only;rw [if_pos rfl,Option.bind_some,if_pos (by rw [zd3];omega),show ((u:Int)).toNat=u by omega,zjz];exact ⟨rfl,trivial⟩
  err:=fun l e hl hp=>by
    have:=zoa hp;refine ⟨by omega,0,l,?_,hl,trivial⟩;unfold za5 zae;rw [if_neg (by simp),(wget hk l hl).2,hp,Option.bind_some];unfold resD;dsimp only;rw [if_pos rfl,Option.bind_some,if_pos (by rw [zd3];omega)];rfl
  stay:=fun l e hl he=>⟨0,l,by unfold za5;rw [if_pos he],hl,trivial⟩
theorem yal (most:Int) (n:Int) (x:List Int) (e:Int):(((if e=0 then some (decide (n<0)) else some false):Option Bool).bind fun s_=>(((if s_=true then ((zae k 6 x e).bind fun rb2=>some rb2) else some e):Option Int).bind fun s_2=>(((if s_2=0 then some (decide (most<n)) else some false):Option Bool).bind fun s_3=>(((if s_3=true then ((zae k 2 x s_2).bind fun rb3=>some rb3) else some s_2):Option Int).bind fun s_4=>(if s_4≠0 then some ((0:Int),x,s_4) else some (n,x,s_4))))))=if e≠0 then some (0,x,e) else if cntC most n≠0 then some (0,x,cntC most n) else some (n,x,0):=by
  unfold zae cntC;by_cases he:e=0
  · subst he;by_cases c1:n<0
    · simp [c1]
    · by_cases c2:most<n
      · simp [c1,c2]
      · simp [c1,c2]
  · simp [he]
theorem yg7 (hk:big≤k) (most:Nat):Rdr (zab k (most:Int)) (mapP (fun n:Nat=>(n:Int)) (pC most)) (fun _=>True):=by
  rw [← z2n];have hi:=yi5 (k:=k) hk
  have hF:∀ x e,zab k (most:Int) x e=(za5 k x e).bind fun rb=>if rb.2.2≠0 then some (0,rb.2.1,rb.2.2) else if cntC most rb.1≠0 then some (0,rb.2.1,cntC most rb.1) else some (rb.1,rb.2.1,0):=fun x e=>by
    unfold zab;congr 1;funext rb;exact yal _ _ _ _
  refine ⟨fun l x u hl hp=>?_,fun l e hl hp=>?_,fun l e hl he=>?_⟩
  · unfold pInt at hp;split at hp
    · cases hp
    · rename_i n u1 h1;split at hp
      · cases hp
      · rename_i h2;cases hp;rw [hF,(hi.ok l _ _ hl h1).1,Option.bind_some];dsimp only;rw [if_neg (by simp),if_neg h2];exact ⟨rfl,trivial⟩
  · unfold pInt at hp;split at hp
    · rename_i h1;cases hp;obtain ⟨a0,v,l',a1,a2,_⟩:=hi.err l _ hl h1;refine ⟨a0,0,l',?_,a2,trivial⟩;rw [hF,a1,Option.bind_some];dsimp only;rw [if_pos a0]
    · rename_i n u1 h1;split at hp
      · rename_i h2;cases hp;refine ⟨h2,0,l.drop u1,?_,zhg hl,trivial⟩;rw [hF,(hi.ok l _ _ hl h1).1,Option.bind_some];dsimp only;rw [if_neg (by simp),if_pos h2]
      · cases hp
  · obtain ⟨v,l',a1,a2,_⟩:=hi.stay l e hl he;refine ⟨0,l',?_,a2,trivial⟩;rw [hF,a1,Option.bind_some];dsimp only;rw [if_pos he]
theorem yd8 (hk:big≤k) {n:Nat} (h0:0<n) (h10:n≤10):Rdr (zai k (n:Int)) (pIs n) (fun v=>v.length=n) where
  ok:=fun l x u hl hp=>by
    unfold pIs at hp;split at hp
    · cases hp
    · rename_i xs u1 h1;split at hp
      · rename_i h2;cases hp;have hu:=z0s h1;unfold zai zae;rw [if_neg (by simp),(zf8 hk l hl).2,h1,Option.bind_some];unfold resL;dsimp only;rw [if_pos rfl,Option.bind_some,if_pos (by rw [zd3];omega),if_pos rfl,Option.bind_some,if_neg (by rw [decide_eq_true_eq];omega),Option.bind_some,if_neg (by simp),show ((u:Int)).toNat=u by omega,zjz];exact ⟨rfl,h2⟩
      · cases hp
  err:=fun l e hl hp=>by
    unfold pIs at hp;split at hp
    · rename_i e' h1;cases hp;have he:=z3q h1;refine ⟨he,List.replicate n 0,l,?_,hl,List.length_replicate⟩;unfold zai zae;rw [if_neg (by simp),(zf8 hk l hl).2,h1,Option.bind_some];unfold resL;dsimp only;rw [if_pos rfl,Option.bind_some,if_pos (by rw [zd3];omega),if_neg he,Option.bind_some,if_neg (by simp),Option.bind_some,if_pos he,if_pos (by omega),show ((n:Int)).toNat=n by omega];rfl
    · rename_i xs u1 h1;split at hp
      · cases hp
      · rename_i h2;cases hp;have hu:=z0s h1;refine ⟨by decide,List.replicate n 0,l.drop u1,?_,zhg hl,List.length_replicate⟩;unfold zai zae;rw [if_neg (by simp),(zf8 hk l hl).2,h1,Option.bind_some];unfold resL;dsimp only;rw [if_pos rfl,Option.bind_some,if_pos (by rw [zd3];omega),if_pos rfl,Option.bind_some,if_pos (by rw [decide_eq_true_eq];omega),if_pos rfl,Option.bind_some,Option.bind_some,if_pos (by decide),if_pos (by omega),show ((n:Int)).toNat=n by omega,show ((u1:Int)).toNat=u1 by omega,zjz]
  stay:=fun l e hl he=>⟨List.replicate n 0,l,by unfold zai;rw [if_pos he,if_pos (by omega),show ((n:Int)).toNat=n by omega],hl,List.length_replicate⟩
theorem yac {xs:List Int} (h:xs.length=10) {j:Nat} (hj:j<10):gx (cpL (zA 10) xs).l (j:Int)=gx xs (j:Int):=by
  show gx (xs.take (min xs.length 10)++_) (j:Int)=_;rw [h,z9h,z9h,List.getD_eq_getElem?_getD,List.getD_eq_getElem?_getD,List.getElem?_append_left (by rw [List.length_take];omega),List.getElem?_take,if_pos (by omega)]
theorem z9e (rb:List Int×List Int×Int) (h:rb.1.length=10) (hk:big≤k):za8 k rb k 0 (zA 10)=some (cpL (zA 10) rb.1):=by
  have hk':9223372036854775808≤k:=hk
  have key:∀ (m j:Nat) (x:Ar 10),j≤10→10 - j<m→(∀ i:Nat,i<j→gx x.l (i:Int)=gx rb.1 (i:Int))→za8 k rb m (j:Int) x=some (cpL (zA 10) rb.1):=by
    intro m
    induction m with
    |zero=>intro j x h1 h2;omega
    |succ m ih =>
      intro j x h1 h2 h3;rw [za8];by_cases c:j<10
      · rw [if_pos (lt10 c),if_pos (by omega),if_pos ⟨by omega,lt10 c⟩,zp3 j (by omega)];refine ih (j+1) _ (by omega) (by omega) fun i hi=>?_;by_cases e:i=j
        · subst e;exact z0p _ c
        · rw [z9g _ (by omega) (fun q=>e q.symm)];exact h3 i (by omega)
      · obtain rfl:j=10:=by omega
        rw [if_neg (by decide)];congr 1;exact yga fun i hi=>by rw [yac h hi];exact h3 i hi
  exact key k 0 (zA 10) (by omega) (by omega) fun i hi=>by omega
theorem z2f (hk:big≤k):Rdr (zah k) pH (fun _=>True):=by
  have hi:=yd8 (k:=k) hk (n:=10) (by decide) (by decide);have hm:=hi.map (cpL (zA 10))
  have fix:∀ x e v b e',zai k ((10:Nat):Int) x e=some (v,b,e')→v.length=10→zah k x e=mapF (cpL (zA 10)) (zai k ((10:Nat):Int)) x e:=fun x e v b e' h hl=>by
    unfold zah mapF;rw [h,show zai k 10 x e=some (v,b,e') from h,Option.bind_some,Option.bind_some,z9e _ hl hk];rfl
  refine ⟨fun l x u hl hp=>?_,fun l e hl hp=>?_,fun l e hl he=>?_⟩
  · have hp':=hp;unfold pH mapP at hp';split at hp'
    · cases hp'
    · rename_i xs u1 h1;obtain ⟨a,b⟩:=hi.ok l _ _ hl h1;rw [fix _ _ _ _ _ a b];exact hm.ok l x u hl hp
  · have hp':=hp;unfold pH mapP at hp';split at hp'
    · rename_i h1;obtain ⟨_,v,l',a,_,b⟩:=hi.err l _ hl h1;rw [fix _ _ _ _ _ a b];exact hm.err l e hl hp
    · cases hp'
  · obtain ⟨v,l',a,_,b⟩:=hi.stay l e hl he;rw [fix _ _ _ _ _ a b];exact hm.stay l e hl he
def rA (k:Nat):Fs Alt:=mapF (fun x=>(⟨x.1,⟨x.2.1,x.2.2⟩⟩:Alt)) (seqF (za5 k) (seqF (zah k) (zah k)))
theorem r_alt (hk:big≤k):Rdr (rA k) pA (fun _=>True):=((yi5 hk).seq ((z2f hk).seq (z2f hk))).map _
theorem z98 (rb:Int×List Int×Int):∀ (m:Nat) (j:Int) x e l n,zap k rb m j x e l n=zap k (rb.1,[],0) m j x e l n
  |0,_,_,_,_,_=>rfl
  |m+1,j,x,e,l,n=>by
    rw [zap,zap];simp only [z98 rb m]
theorem ycs (N j:Int) (m:Nat) (x:List Int) (e:Int) (l:List Alt) (n:Nat) (hn:n≤5000) (hj:j<N) (he:e=0):zap k (N,[],0) (m+1) j x e l n=(rA k x e).bind fun rb=>zap k (N,[],0) m (IntKind.i64.wrap (j+1)) rb.2.1 rb.2.2 (l++[rb.1]) (n+1):=by
  rw [zap];dsimp only;rw [if_pos hj,Option.bind_some,if_pos (decide_eq_true he)];unfold rA mapF seqF
  cases za5 k x e with
  |none=>rfl
  |some r =>
    simp only [Option.bind_some]
    cases zah k r.2.1 r.2.2 with
    |none=>rfl
    |some s =>
      simp only [Option.bind_some]
      cases zah k s.2.1 s.2.2 with
      |none=>rfl
      |some t=>simp only [Option.bind_some];rw [if_pos (by omega)]
def rO (k:Nat):Fs (List Alt):=fun x e=>(zab k 8 x e).bind fun rb=>(zap k rb k 0 rb.2.1 rb.2.2 [] 0).bind fun s=>if s.2.2.1.length=s.2.2.2 then some (s.2.2.1,s.1,s.2.1) else none
theorem ygn {N r:Nat} (h:r+1≤N) (hN:N≤4000):IntKind.i64.wrap ((N:Int) - ((r+1:Nat):Int)+1)=(N:Int) - (r:Int):=by rw [wi (by omega)];omega
theorem r_out (hk : big ≤ k) : Rdr (rO k) pO (fun _ => True) := Rdr.cnt (k := k) (C := zab k ((8 : Nat) : Int)) (L := fun N m r x e acc n => zap k (N, [], 0) m (N - r) x e acc n) (yg7 hk 8) (by decide) hk (r_alt hk)
    (fun N m r x acc n h1 h2 h3=>by
      rw [ycs _ _ _ _ _ _ _ h1 (by omega) rfl]
      simp only [ygn h2 h3])
    (fun N m x acc n h=>by
      rw [zap];dsimp only
      rw [if_neg (by omega),Option.bind_some,if_neg (by simp)])
    (fun N m r x e acc n he=>by
      rw [zap];dsimp only;rw [decide_eq_false he];by_cases c:N - r<N
      · rw [if_pos c,Option.bind_some,if_neg (by simp)]
      · rw [if_neg c,Option.bind_some,if_neg (by simp)])
    (fun x e=>by
      unfold rO;show (zab k 8 x e).bind _=(zab k 8 x e).bind _;congr 1;funext rb
      rw [z98,Int.sub_self])
theorem z99 (rb:Int×List Int×Int):∀ (m:Nat) (j:Int) x e l n,zaq k rb m j x e l n=zaq k (rb.1,[],0) m j x e l n
  |0,_,_,_,_,_=>rfl
  |m+1,j,x,e,l,n=>by
    rw [zaq,zaq];simp only [z99 rb m]
theorem yct (N j:Int) (m:Nat) (x:List Int) (e:Int) (l:List (List Alt)) (n:Nat) (hn:n≤5000) (hj:j<N) (he:e=0):zaq k (N,[],0) (m+1) j x e l n=(rO k x e).bind fun rb=>zaq k (N,[],0) m (IntKind.i64.wrap (j+1)) rb.2.1 rb.2.2 (l++[rb.1]) (n+1):=by
  rw [zaq];dsimp only;rw [if_pos hj,Option.bind_some,if_pos (decide_eq_true he)];unfold rO
  cases zab k 8 x e with
  |none=>rfl
  |some r =>
    simp only [Option.bind_some]
    cases zap k r k 0 r.2.1 r.2.2 [] 0 with
    |none=>rfl
    |some s =>
      simp only [Option.bind_some];by_cases c:s.2.2.1.length=s.2.2.2
      · rw [if_pos c,if_pos c,if_pos (by omega)];rfl
      · rw [if_neg c,if_neg c];rfl
def rOs (k:Nat):Fs (List (List Alt)):=fun x e=>(zab k 16 x e).bind fun rb=>(zaq k rb k 0 rb.2.1 rb.2.2 [] 0).bind fun s=>if s.2.2.1.length=s.2.2.2 then some (s.2.2.1,s.1,s.2.1) else none
theorem yi4 (hk : big ≤ k) : Rdr (rOs k) (pCnt 16 pO) (fun _ => True) := Rdr.cnt (k := k) (C := zab k ((16 : Nat) : Int)) (L := fun N m r x e acc n => zaq k (N, [], 0) m (N - r) x e acc n) (yg7 hk 16) (by decide) hk (r_out hk)
    (fun N m r x acc n h1 h2 h3=>by
      rw [yct _ _ _ _ _ _ _ h1 (by omega) rfl]
      simp only [ygn h2 h3])
    (fun N m x acc n h=>by
      rw [zaq];dsimp only
      rw [if_neg (by omega),Option.bind_some,if_neg (by simp)])
    (fun N m r x e acc n he=>by
      rw [zaq];dsimp only;rw [decide_eq_false he];by_cases c:N - r<N
      · rw [if_pos c,Option.bind_some,if_neg (by simp)]
      · rw [if_neg c,Option.bind_some,if_neg (by simp)])
    (fun x e=>by
      unfold rOs;show (zab k 16 x e).bind _=(zab k 16 x e).bind _;congr 1;funext rb
      rw [z99,Int.sub_self])
def rR (k:Nat):Fs Rule:=mapF (fun x=>(⟨gx x.1 0,⟨x.2.1,x.2.2.1⟩,gx x.1 1,x.2.2.2⟩:Rule)) (seqF (two (F:=zai k ((2:Nat):Int))) (seqF (zah k) (seqF (zah k) (rOs k))))
theorem yi3 (hk:big≤k):Rdr (rR k) pR (fun _=>True):=((ydn (yd8 hk (n:=2) (by decide) (by decide))).seq ((z2f hk).seq ((z2f hk).seq (yi4 hk)))).map _
theorem yaa (rb:Int×List Int×Int):∀ (m:Nat) (j:Int) x e l n,zar k rb m j x e l n=zar k (rb.1,[],0) m j x e l n
  |0,_,_,_,_,_=>rfl
  |m+1,j,x,e,l,n=>by
    rw [zar,zar];simp only [yaa rb m]
theorem ycu (N j:Int) (m:Nat) (x:List Int) (e:Int) (l:List Rule) (n:Nat) (hn:n≤5000) (hj:j<N) (he:e=0):zar k (N,[],0) (m+1) j x e l n=(rR k x e).bind fun rb=>zar k (N,[],0) m (IntKind.i64.wrap (j+1)) rb.2.1 rb.2.2 (l++[rb.1]) (n+1):=by
  rw [zar];dsimp only;rw [if_pos hj,Option.bind_some,if_pos (decide_eq_true he)];unfold rR mapF seqF two rOs
  cases hq:zai k 2 x e with
  |none=>simp only [show zai k ((2:Nat):Int) x e=none from hq];rfl
  |some r =>
    simp only [show zai k ((2:Nat):Int) x e=some r from hq,Option.bind_some];by_cases c1:(0:Int)≤0∧0<(r.1.length:Int)
    · rw [if_pos c1,if_pos c1];by_cases c2:(0:Int)≤1∧1<(r.1.length:Int)
      · rw [if_pos c2,if_pos c2];simp only [Option.bind_some]
        cases zah k r.2.1 r.2.2 with
        |none=>rfl
        |some s =>
          simp only [Option.bind_some]
          cases zah k s.2.1 s.2.2 with
          |none=>rfl
          |some t =>
            simp only [Option.bind_some]
            cases zab k 16 t.2.1 t.2.2 with
            |none=>rfl
            |some w =>
              simp only [Option.bind_some]
              cases zaq k w k 0 w.2.1 w.2.2 [] 0 with
              |none=>rfl
              |some z =>
                simp only [Option.bind_some];by_cases c:z.2.2.1.length=z.2.2.2
                · rw [if_pos c,if_pos c,if_pos (by omega)];rfl
                · rw [if_neg c,if_neg c];rfl
      · rw [if_neg c2,if_neg c2];rfl
    · rw [if_neg c1,if_neg c1];rfl
def rRs (k:Nat):Fs (List Rule):=fun x e=>(zab k 4000 x e).bind fun rb=>(zar k rb k 0 rb.2.1 rb.2.2 [] 0).bind fun s=>if s.2.2.1.length=s.2.2.2 then some (s.2.2.1,s.1,s.2.1) else none
theorem z7o (hk : big ≤ k) : Rdr (rRs k) (pCnt 4000 pR) (fun _ => True) := Rdr.cnt (k := k) (C := zab k ((4000 : Nat) : Int)) (L := fun N m r x e acc n => zar k (N, [], 0) m (N - r) x e acc n) (yg7 hk 4000) (by decide) hk (yi3 hk)
    (fun N m r x acc n h1 h2 h3=>by
      rw [ycu _ _ _ _ _ _ _ h1 (by omega) rfl]
      simp only [ygn h2 h3])
    (fun N m x acc n h=>by
      rw [zar];dsimp only
      rw [if_neg (by omega),Option.bind_some,if_neg (by simp)])
    (fun N m r x e acc n he=>by
      rw [zar];dsimp only;rw [decide_eq_false he];by_cases c:N - r<N
      · rw [if_pos c,Option.bind_some,if_neg (by simp)]
      · rw [if_neg c,Option.bind_some,if_neg (by simp)])
    (fun x e=>by
      unfold rRs;show (zab k 4000 x e).bind _=(zab k 4000 x e).bind _;congr 1;funext rb
      rw [yaa,Int.sub_self])
theorem z43 (hk:big≤k) (l:List UInt8) (hl:l.length≤1000000):zg2 k (bvi l)=some (zkv (pT l)):=by
  have tail:∀ (t:List Rule) (b:List Int) (e:Int),rRs k (bvi l) 0=some (t,b,e)→zg2 k (bvi l)=(((if e=0 then some (decide (0<(b.length:Int))) else some false):Option Bool).bind fun s_9=>(((if s_9=true then ((zae k 6 b e).bind fun rb10=>some rb10) else some e):Option Int).bind fun s_10=>(if s_10≠0 then some ([],s_10) else some (t,0)))):=fun t b e h=>by
    unfold rRs at h;unfold zg2
    cases h1:zab k 4000 (bvi l) 0 with
    |none=>rw [h1] at h;cases h
    |some rb =>
      rw [h1,Option.bind_some] at h;rw [Option.bind_some]
      cases h2:zar k rb k 0 rb.2.1 rb.2.2 [] 0 with
      |none=>rw [h2] at h;cases h
      |some s =>
        rw [h2,Option.bind_some] at h;rw [Option.bind_some];by_cases c:s.2.2.1.length=s.2.2.2
        · rw [if_pos c] at h;simp only [Option.some.injEq,Prod.mk.injEq] at h;obtain ⟨rfl,rfl,rfl⟩:=h;simp only [if_pos c]
        · rw [if_neg c] at h;cases h
  cases hp:pCnt 4000 pR l with
  |error e =>
    obtain ⟨a0,v,l',a1,a2,_⟩:=(z7o hk).err l e hl hp;rw [tail _ _ _ a1,if_neg a0,Option.bind_some,if_neg (by simp),Option.bind_some,if_pos a0,yef hp];rfl
  |ok q =>
    obtain ⟨t,u⟩:=q;obtain ⟨a1,_⟩:=(z7o hk).ok l t u hl hp;rw [tail _ _ _ a1,if_pos rfl,Option.bind_some];unfold pT zae;rw [hp];dsimp only;rw [zd3,List.length_drop];by_cases c:u<l.length
    · rw [if_pos c,if_pos (by rw [decide_eq_true_eq];omega),if_pos rfl,Option.bind_some,Option.bind_some,if_pos (by decide)];rfl
    · rw [if_neg c,if_neg (by rw [decide_eq_true_eq];omega),Option.bind_some,if_neg (by decide)];rfl
end
end
section
open Go Go.RowKit WM
set_option maxRecDepth 100000
theorem zf7 (a b:List UInt8):bvi (a++b)=bvi a++bvi b:=by unfold bvi;rw [List.map_append]
theorem z4m {α:Type} (l:List α) (f:α→List UInt8):bvi (l.flatMap f)=l.flatMap fun x=>bvi (f x):=by
  induction l with
  |nil=>rfl
  |cons x l ih=>rw [List.flatMap_cons,List.flatMap_cons,zf7,ih]
def eH (a:Ar 10):List UInt8:=encL enc a.l
def eA (a:Alt):List UInt8:=enc a.link++(eH a.mod.mask++eH a.mod.bits)
def eC {α:Type} (f:α→List UInt8) (l:List α):List UInt8:=enc (l.length:Int)++l.flatMap f
def eR (r:Rule):List UInt8:=encL enc [r.prio,r.step]++(eH r.mat.mask++(eH r.mat.bits++eC (eC eA) r.outs))
def eT (t:List Rule):List UInt8:=eC eR t
theorem zng (l:List Int):bvi (encL enc l)=zc2 l:=by
  unfold encL zc2;rw [zf7,z4m];rfl
theorem ykb (a:Alt):bvi (eA a)=encA a:=by
  unfold eA encA eH;rw [zf7,zf7,zng,zng];rfl
theorem yau {α:Type} {f:α→List UInt8} {g:α→List Int} (h:∀ x,bvi (f x)=g x) (l:List α):bvi (eC f l)=encI (l.length:Int)++l.flatMap g:=by
  unfold eC;rw [zf7,z4m];simp only [h];rfl
theorem yka (r:Rule):bvi (eR r)=encR r:=by
  unfold eR encR eH;rw [zf7,zf7,zf7,zng,zng,zng,yau (g:=encO) fun l=>(yau (g:=encA) ykb l).trans rfl,List.append_assoc]
theorem yat (t:List Rule):bvi (eT t)=encT t:=(yau (g:=encR) yka t).trans rfl
def RtR {α:Type} (p:Ps α) (en:α→List UInt8) (P:α→Prop):Prop:=∀ x t,P x→p (en x++t)=.ok (x,(en x).length)
section
variable {α β:Type} {p:Ps α} {q:Ps β} {en:α→List UInt8} {em:β→List UInt8} {P:α→Prop} {Q:β→Prop}
theorem RtR.both (h:RtR p en P) (k:RtR q em Q):RtR (zo9 p q) (fun x=>en x.1++em x.2) (fun x=>P x.1∧Q x.2):=fun x t hx=>by
  unfold zo9;rw [List.append_assoc,h _ _ hx.1];simp only;rw [List.drop_left,k _ _ hx.2];simp only [List.length_append]
theorem RtR.map {f:α→β} (h:RtR p en P) {g:β→α} (he:∀ y,Q y→em y=en (g y)∧P (g y)∧f (g y)=y):RtR (mapP f p) em Q:=fun y t hy=>by
  obtain ⟨h1,h2,h3⟩:=he y hy;unfold mapP;rw [h1,h _ _ h2];simp only [h3]
theorem RtR.cnt (h:RtR p en P) {most:Nat} (hm:most≤4000):RtR (pCnt most p) (eC en) (fun l=>l.length≤most∧∀ x,x∈l→P x):=fun l t hl=>by
  have g:WM.Good p en P 0:=⟨h,fun _ _=>Nat.zero_le _⟩;have hl1:=hl.1;unfold pCnt pC eC;rw [List.append_assoc,zv8 (n:=(l.length:Int)) (by omega) (by omega)];simp only;rw [if_neg (by omega),if_neg (by omega)];simp only;rw [List.drop_left,Int.toNat_natCast,ztn g t l hl.2];simp only [List.length_append]
end
theorem z7i {m:Nat} (hm:m≤10):RtR (pIs m) (encL enc) (fun l=>l.length=m∧∀ x,x∈l→i64 x):=fun l t hl=>by
  have hl1:=hl.1;unfold pIs;rw [z5f ycj (by decide) t l (fun x hx=>hl.2 x hx) (by omega)];simp only;rw [if_pos hl1]
theorem ycv (a:Ar 10):cpL (zA 10) a.l=a:=yga fun j hj=>yac a.h hj
theorem zu8:RtR pH eH (fun a=>∀ x,x∈a.l→i64 x):=(z7i (m:=10) (by decide)).map (g:=fun a=>a.l) fun a ha=>⟨rfl,⟨a.h,ha⟩,ycv a⟩
theorem yi0:RtR dec enc i64:=fun n t h=>zv8 h.1 h.2 t
theorem yi1:RtR pA eA I64A:=(yi0.both (zu8.both zu8)).map (g:=fun a=>(a.link,a.mod.mask,a.mod.bits)) fun a ha=>⟨rfl,⟨ha.link,ha.mod.mask,ha.mod.bits⟩,rfl⟩
def FewO (l:List Alt):Prop:=l.length≤8∧∀ a,a∈l→I64A a
structure FewR (r:Rule):Prop where
  prio:i64 r.prio
  step:i64 r.step
  mat:I64P r.mat
  len:r.outs.length≤16
  outs:∀ l,l∈r.outs→FewO l
theorem FewR.ok {r:Rule} (h:FewR r):I64R r:=⟨h.prio,h.step,h.mat,by have:=h.len;omega,fun l hl=>⟨by have:=(h.outs l hl).1;omega,(h.outs l hl).2⟩⟩
theorem yiz:RtR pO (eC eA) FewO:=yi1.cnt (by decide)
theorem yg5:RtR pR eR FewR:=((z7i (m:=2) (by decide)).both (zu8.both (zu8.both (yiz.cnt (most:=16) (by decide))))).map (g:=fun r=>([r.prio,r.step],r.mat.mask,r.mat.bits,r.outs)) fun r hr=>⟨rfl,⟨⟨rfl,zuu hr.ok⟩,hr.mat.mask,hr.mat.bits,hr.len,hr.outs⟩,rfl⟩
theorem ybr {t:List Rule} (hl:t.length≤4000) (h:∀ r,r∈t→FewR r):pT (eT t)=.ok t:=by
  have:=yg5.cnt (most:=4000) (by decide) t [] ⟨hl,h⟩;rw [List.append_nil] at this;unfold pT eT;rw [this];simp only;rw [if_neg (Nat.lt_irrefl _)]
def CnR {α:Type} (p:Ps α) (en:α→List UInt8) (Q:α→Prop):Prop:=∀ l x u,p l=.ok (x,u)→l.take u=en x∧u≤l.length∧Q x
section
variable {α β:Type} {p:Ps α} {q:Ps β} {en:α→List UInt8} {em:β→List UInt8} {P:α→Prop} {Q:β→Prop}
theorem CnR.both (h:CnR p en P) (k:CnR q em Q):CnR (zo9 p q) (fun x=>en x.1++em x.2) (fun x=>P x.1∧Q x.2):=fun l x u hp=>by
  unfold zo9 at hp;split at hp
  · cases hp
  · rename_i x1 u1 h1;split at hp
    · cases hp
    · rename_i y v h2;cases hp;obtain ⟨a1,a2,a3⟩:=h _ _ _ h1;obtain ⟨b1,b2,b3⟩:=k _ _ _ h2;rw [List.length_drop] at b2;refine ⟨?_,by omega,a3,b3⟩;rw [List.take_add,a1,b1]
theorem CnR.map (h:CnR p en P) {f:α→β} (he:∀ x,P x→em (f x)=en x∧Q (f x)):CnR (mapP f p) em Q:=fun l y u hp=>by
  unfold mapP at hp;split at hp
  · cases hp
  · rename_i x u1 h1;cases hp;obtain ⟨a1,a2,a3⟩:=h _ _ _ h1;obtain ⟨b1,b2⟩:=he x a3;exact ⟨by rw [a1,b1],a2,b2⟩
theorem z0f (h:CnR p en P):∀ (n:Nat) (l:List UInt8) (xs:List α) (v:Nat),many p n l=.ok (xs,v)→l.take v=xs.flatMap en∧v≤l.length∧xs.length=n∧∀ x,x∈xs→P x
  |0,l,xs,v,hm=>by
    simp only [many,Except.ok.injEq,Prod.mk.injEq] at hm;obtain ⟨rfl,rfl⟩:=hm;exact ⟨by simp,Nat.zero_le _,rfl,fun x hx=>by cases hx⟩
  |n+1,l,xs,v,hm=>by
    rw [many] at hm;split at hm
    · cases hm
    · rename_i x u h1;split at hm
      · cases hm
      · rename_i ys w h2;cases hm;obtain ⟨a1,a2,a3⟩:=h _ _ _ h1;obtain ⟨b1,b2,b3,b4⟩:=z0f h n _ _ _ h2;rw [List.length_drop] at b2;refine ⟨?_,by omega,by simp [b3],fun y hy=>?_⟩
        · rw [List.take_add,a1,b1,List.flatMap_cons]
        · rcases List.mem_cons.1 hy with rfl|hy
          · exact a3
          · exact b4 y hy
theorem CnR.cnt (h:CnR p en P) (most:Nat):CnR (pCnt most p) (eC en) (fun l=>l.length≤most∧∀ x,x∈l→P x):=fun l xs u hp=>by
  unfold pCnt at hp;split at hp
  · cases hp
  · rename_i n u1 h1;have hn:=yhd h1;split at hp
    · cases hp
    · rename_i ys v h2;cases hp;unfold pC at h1;split at h1
      · cases h1
      · rename_i n' u' hd;split at h1
        · cases h1
        · split at h1
          · cases h1
          · simp only [Except.ok.injEq,Prod.mk.injEq] at h1;obtain ⟨rfl,rfl⟩:=h1;obtain ⟨c1,_,c3,_,c5,c6⟩:=zgq hd;obtain ⟨b1,b2,b3,b4⟩:=z0f h _ _ _ _ h2;rw [List.length_drop] at b2;refine ⟨?_,by omega,by omega,b4⟩;unfold eC;rw [List.take_add,c1,b1,b3,show ((n'.toNat:Nat):Int)=n' by omega]
end
theorem yf3:CnR dec enc i64:=fun l n u h=>by
  obtain ⟨c1,_,c3,_,c5,c6⟩:=zgq h;exact ⟨c1,c3,c5,c6⟩
theorem yam (m:Nat):CnR (pIs m) (encL enc) (fun l=>l.length=m∧∀ x,x∈l→i64 x):=fun l xs u hp=>by
  unfold pIs at hp;split at hp
  · cases hp
  · rename_i ys u1 h1;split at hp
    · rename_i hm;cases hp;obtain ⟨a1,a2⟩:=zt6 zzb h1;refine ⟨a1,a2,hm,?_⟩;unfold getL at h1;split at h1
      · cases h1
      · split at h1
        · cases h1
        · rename_i zs v h2;cases h1;exact (z0f yf3 _ _ _ _ h2).2.2.2
    · cases hp
theorem ycw {xs:List Int} (h:xs.length=10):(cpL (zA 10) xs).l=xs:=by
  show xs.take (min xs.length 10)++(zA 10).l.drop (min xs.length 10)=xs;rw [h,show (zA 10).l.drop (min 10 10)=[] from rfl,List.append_nil];exact List.take_of_length_le (by omega)
theorem zwb:CnR pH eH (fun a=>∀ x,x∈a.l→i64 x):=(yam 10).map fun xs hx=>by
  unfold eH;rw [ycw hx.1];exact ⟨rfl,hx.2⟩
theorem yj5:CnR pA eA I64A:=(yf3.both (zwb.both zwb)).map fun x hx=>⟨rfl,hx.1,hx.2.1,hx.2.2⟩
theorem yj4:CnR pO (eC eA) FewO:=yj5.cnt 8
theorem yh3:CnR pR eR FewR:=((yam 2).both (zwb.both (zwb.both (yj4.cnt 16)))).map fun x hx=>by
  obtain ⟨⟨h2,hi⟩,hm,hb,hl,ho⟩:=hx;obtain ⟨xs,m,b,o⟩:=x
  match xs,h2,hi with
  |[p,s],_,hi =>
    refine ⟨rfl,hi p (by simp),hi s (by simp),⟨hm,hb⟩,hl,ho⟩
theorem z2m {l:List UInt8} {t:List Rule} (h:pT l=.ok t):l=eT t∧t.length≤4000∧∀ r,r∈t→FewR r:=by
  unfold pT at h;split at h
  · cases h
  · rename_i t' u hp;split at h
    · cases h
    · rename_i hu;cases h;obtain ⟨a1,a2,a3,a4⟩:=yh3.cnt 4000 _ _ _ hp;refine ⟨?_,a3,a4⟩;rw [List.take_of_length_le (by omega)] at a1;exact a1
theorem pT_ne {k:Nat} (hk:big≤k) {l:List UInt8} (hl:l.length≤1000000) {e:Int} (h:pT l=.error e):e≠0:=by
  unfold pT at h;split at h
  · rename_i hp;cases h;exact ((z0c hk).err l _ hl hp).1
  · split at h
    · cases h;decide
    · cases h
end
section
open Go Go.RowKit
def z8x (n:Net) (k:Int):Prop:=0≤k∧k<(n.nodes.length:Int)
instance (n:Net) (k:Int):Decidable (z8x n k):=by unfold z8x;infer_instance
structure RightNet (n:Net):Prop where
  nodes:n.nodes.length≤10
  links:n.links.length≤24
  frm:∀ k,k<n.links.length→0≤(n.links.getD k default).frm∧(n.links.getD k default).frm<(n.nodes.length:Int)
  to:∀ k,k<n.links.length→0≤(n.links.getD k default).to∧(n.links.getD k default).to<(n.nodes.length:Int)
  apart:∀ k,k<n.links.length→(n.links.getD k default).frm≠(n.links.getD k default).to
  cap:∀ k,k<n.links.length→0≤(n.links.getD k default).cap∧(n.links.getD k default).cap≤1048576
structure Held (n:Net):Prop where
  nodes:∀ x,x∈n.nodes→x.name.size<9223372036854775808
  edges:∀ x,x∈n.edges→x.name.size<9223372036854775808
end
section
open Go Go.RowKit
def fewT (t:List Rule) (most:Int):Bool:=t.all (fun r=>decide (r.outs.length≤20) && r.outs.all fun l=>decide (l.length≤10)) && decide ((t.length:Int)≤most)
theorem yha {k:Nat} (t:List Rule) (most:Int) (ht:z48 t) (hk:big≤k):zmq k t most=some (fewT t most):=by
  unfold zmq fewT
  rw [zpk (L:=ze3 k t) t false (fun r=>decide (r.outs.length≤20) && r.outs.all fun l=>decide (l.length≤10)) ht.1 (fun m j h=>by
    rw [ze3,if_pos (zbc h),if_pos ⟨by omega,zbc h⟩,zfi h];by_cases c:20<(t[j].outs.length:Int)
    · rw [if_pos c,decide_eq_false (by omega)];rfl
    · rw [if_neg c,decide_eq_true (by omega)];have hr:=(ht.2 _ (List.getElem_mem h)).1
      rw [zpk (L:=ze2 k t (j:Int)) t[j].outs false (fun l=>decide (l.length≤10)) hr (fun m i hi=>by
        rw [ze2,zfi h,if_pos (zbc hi),if_pos ⟨by omega,zbc hi⟩,zfi hi];by_cases d:10<(t[j].outs[i].length:Int)
        · rw [if_pos d,decide_eq_false (by omega)];rfl
        · rw [if_neg d,decide_eq_true (by omega)];rfl) (fun m=>by rw [ze2,zfi h,if_neg (by omega)]) (Nat.lt_of_lt_of_le hr hk),Option.bind_some]
      simp only [Bool.true_and]
      cases t[j].outs.all _<;>rfl) (fun m=>by rw [ze3,if_neg (by omega)]) (Nat.lt_of_lt_of_le ht.1 hk),Option.bind_some]
  cases t.all _<;>rfl
end
section
open Go Go.RowKit
set_option maxRecDepth 100000
def zbi (k:Nat) (t:List Rule) (i:Int):Nat→Int→Option (Bool ⊕ Unit)
 |0,_=>none
 |m+1,i2=>(if i2<(((gx t i).outs).length:Int) then (if (0:Int)≤i2∧i2<(((gx t i).outs).length:Int) then (if 8<((gx ((gx t i).outs) i2).length:Int) then some (.inl true) else zbi k t i m (IntKind.i64.wrap (i2+1))) else none) else some (.inr ()))
def zbb (k:Nat) (t:List Rule):Nat→Int→Option (Bool ⊕ Unit)
 |0,_=>none
 |m+1,i=>(if i<(t.length:Int) then (((if (0:Int)≤i∧i<(t.length:Int) then (if 16<(((gx t i).outs).length:Int) then some (.inl true) else ((zbi k t i k 0:Option (Bool ⊕ Unit)).bind fun o=>Sum.elim (fun r=>some (.inl r)) (fun s_5=>some (.inr ())) o)) else none):Option (Bool ⊕ Unit)).bind fun o2=>Sum.elim (fun r=>some (.inl r)) (fun s_4=>zbb k t m (IntKind.i64.wrap (i+1))) o2) else some (.inr ()))
def ze4 (k:Nat) (t:List Rule) (b:List Int):Option Bool:=((((zmq k t 12).bind fun rFew=>(if rFew=true then some (decide (3000<(b.length:Int))) else some true)):Option Bool).bind fun s_=>(if s_=true then some true else ((zeh k t).bind fun rEncode=>((zfd k b).bind fun rDecode=>((zg2 k b).bind fun rDecode2=>((((zg1 k t).bind fun rEncode2=>((zhk k rEncode rEncode2).bind fun rSame=>(if rSame=true then ((zid k rDecode.1 rDecode2.1).bind fun rSame2=>(if rSame2=true then (if rDecode.2≠rDecode2.2 then some true else (if rDecode.2=0 then ((zeh k rDecode.1).bind fun rEncode3=>((zhk k rEncode3 b).bind fun rSame3=>some (!rSame3))) else some false)) else some true)) else some true))):Option Bool).bind fun s_2=>(if s_2=true then some false else ((zbb k t k 0:Option (Bool ⊕ Unit)).bind fun o3=>Sum.elim (fun r=>some r) (fun s_3=>((zfd k rEncode).bind fun rDecode3=>(if rDecode3.2=0 then ((zid k rDecode3.1 t).bind fun rSame4=>some rSame4) else some false))) o3))))))))
set_option maxHeartbeats 8000000 in
theorem zmu (ax:Axs) (hx:zb7 ax) (k:Nat) (t:List Rule) (b:List Int) (v:Bool) (H:ze4 k t b=some v):Pure Tryz.prog (EE ax) [] 8 [zat t,byts b] (.bool v):=by
 rw [ze4] at H;refine en [.tmp 4] 103 [0,1] (hx.no _ (by decide)) (fn8 ax) ?_;intro h hh;repeat apply TW.seq
 refine rk [0,1] [] hh ?_;clear hh h;intro h hh;obtain ⟨s_,H1,H⟩:=zad H;repeat apply TW.seq
 refine cu [0,1,23] 0 (fun h bs=>(h 0=zat t∧h 1=byts b∧h 23=.bool s_)∧bs=[]) ?_ ?_
 ·skip;obtain ⟨rFew,e1,H1⟩:=zad H1;rcases isb H1 with ⟨c2,H1⟩|⟨c2,H1⟩;rotate_left
  ·skip;repeat apply TW.seq
   refine rkc [0,1,23] [] [(.bool rFew,stL [])] (f2 hh c2) ?_ ?_
   ·exact ⟨zau.call (Pure.clr (zqc ax hx k t 12 rFew e1 ) (by first|rfl|simp only [c2])),trivial⟩
   clear hh h;intro h hh;cases H1;exact ce hh ⟨kq hh,rfl⟩
  repeat apply TW.seq
  refine rkc [0,1,23] [] [(.bool rFew,stL [])] (f2 hh c2) ?_ ?_
  ·exact ⟨zau.call (Pure.clr (zqc ax hx k t 12 rFew e1 ) (by first|rfl|simp only [c2])),trivial⟩
  clear hh h;intro h hh;cases H1;exact ce hh ⟨kq hh,rfl⟩
 clear hh h;rintro h bs ⟨hh,rfl⟩;rcases isb H with ⟨c3,H⟩|⟨c3,H⟩;rotate_left
 ·skip;repeat apply TW.seq
  refine cf (f2 hh c3) ?_;repeat apply TW.seq
  refine sk ?_;obtain ⟨rEncode,e4,H⟩:=zad H;repeat apply TW.seq
  refine rkc [0,1,5] [] [(byts rEncode,stL [])] (f2 hh c3) ?_ ?_
  ·exact ⟨zau.call (Pure.clr (zj4 ax hx k t rEncode e4 ) (by first|rfl|simp only [c3])),trivial⟩
  clear hh h;intro h hh;obtain ⟨rDecode,e5,H⟩:=zad H;repeat apply TW.seq
  refine rkc [0,1,5,6,7] [] [(.tup [zat rDecode.1,.int .i64 rDecode.2],stL [])] (f2 hh c3) ?_ ?_
  ·exact ⟨zau.call (Pure.clr (zj5 ax hx k b rDecode e5 ) (by first|rfl|simp only [c3])),trivial⟩
  clear hh h;intro h hh;obtain ⟨rDecode2,e6,H⟩:=zad H;repeat apply TW.seq
  refine rkc [0,1,5,6,7,8,9] [] [(.tup [zat rDecode2.1,.int .i64 rDecode2.2],stL [])] (f2 hh c3) ?_ ?_
  ·exact ⟨zau.call (Pure.clr (zsb ax hx k b rDecode2 e6 ) (by first|rfl|simp only [c3])),trivial⟩
  clear hh h;intro h hh;obtain ⟨s_2,H1,H⟩:=zad H;repeat apply TW.seq
  refine cu [0,5,63] 0 (fun h bs=>(h 0=zat t∧h 5=byts rEncode∧h 63=.bool s_2)∧bs=[]) ?_ ?_
  ·skip;obtain ⟨rEncode2,e7,H1⟩:=zad H1;obtain ⟨rSame,e8,H1⟩:=zad H1;rcases isb H1 with ⟨c9,H1⟩|⟨c9,H1⟩;rotate_left
   ·skip;repeat apply TW.seq
    refine rkc [0,5,63] [] [(byts rEncode2,stL []),(.bool rSame,stL [])] (f3 hh c9 c3) ?_ ?_
    ·exact ⟨zau.call (Pure.clr (zfn ax hx k t rEncode2 e7 ) (by first|rfl|simp only [c3,c9])),zau.call (Pure.clr (zf4 ax hx k rEncode rEncode2 rSame e8 ) (by first|rfl|simp only [c3,c9])),trivial⟩
    clear hh h;intro h hh;cases H1;exact ce hh ⟨kq hh,rfl⟩
   obtain ⟨rSame2,e10,H1⟩:=zad H1;rcases isb H1 with ⟨c11,H1⟩|⟨c11,H1⟩;rotate_left
   ·skip;repeat apply TW.seq
    refine rkc [0,5,63] [] [(byts rEncode2,stL []),(.bool rSame,stL []),(.bool rSame2,stL [])] (f3 hh c9 (f2 c11 c3)) ?_ ?_
    ·exact ⟨zau.call (Pure.clr (zfn ax hx k t rEncode2 e7 ) (by first|rfl|simp only [c3,c9,c11])),zau.call (Pure.clr (zf4 ax hx k rEncode rEncode2 rSame e8 ) (by first|rfl|simp only [c3,c9,c11])),zau.call (Pure.clr (zhj ax hx k rDecode.1 rDecode2.1 rSame2 e10 ) (by first|rfl|simp only [c3,c9,c11])),trivial⟩
    clear hh h;intro h hh;cases H1;exact ce hh ⟨kq hh,rfl⟩
   rcases isp H1 with ⟨c12,H1⟩|⟨c12,H1⟩;rotate_left
   ·skip;rcases isp H1 with ⟨c13,H1⟩|⟨c13,H1⟩;rotate_left
    ·skip;repeat apply TW.seq
     refine rkc [0,5,63] [] [(byts rEncode2,stL []),(.bool rSame,stL []),(.bool rSame2,stL [])] (f3 hh c9 (f3 c11 (decide_eq_false c12) (f2 (decide_eq_false c13) c3))) ?_ ?_
     ·exact ⟨zau.call (Pure.clr (zfn ax hx k t rEncode2 e7 ) (by first|rfl|simp only [c3,c9,c11])),zau.call (Pure.clr (zf4 ax hx k rEncode rEncode2 rSame e8 ) (by first|rfl|simp only [c3,c9,c11])),zau.call (Pure.clr (zhj ax hx k rDecode.1 rDecode2.1 rSame2 e10 ) (by first|rfl|simp only [c3,c9,c11])),trivial⟩
     clear hh h;intro h hh;cases H1;exact ce hh ⟨kq hh,rfl⟩
    obtain ⟨rEncode3,e14,H1⟩:=zad H1;obtain ⟨rSame3,e15,H1⟩:=zad H1;repeat apply TW.seq
    refine rkc [0,5,63] [] [(byts rEncode2,stL []),(.bool rSame,stL []),(.bool rSame2,stL []),(byts rEncode3,stL []),(.bool rSame3,stL [])] (f3 hh c9 (f3 c11 (decide_eq_false c12) (f2 (decide_eq_true c13) c3))) ?_ ?_
    ·exact ⟨zau.call (Pure.clr (zfn ax hx k t rEncode2 e7 ) (by first|rfl|simp only [c3,c9,c11])),zau.call (Pure.clr (zf4 ax hx k rEncode rEncode2 rSame e8 ) (by first|rfl|simp only [c3,c9,c11])),zau.call (Pure.clr (zhj ax hx k rDecode.1 rDecode2.1 rSame2 e10 ) (by first|rfl|simp only [c3,c9,c11])),zau.call (Pure.clr (zj4 ax hx k rDecode.1 rEncode3 e14 ) (by first|rfl|simp only [c3,c9,c11])),zau.call (Pure.clr (zf4 ax hx k rEncode3 b rSame3 e15 ) (by first|rfl|simp only [c3,c9,c11])),trivial⟩
    clear hh h;intro h hh;cases H1;exact ce hh ⟨kq hh,rfl⟩
   repeat apply TW.seq
   refine rkc [0,5,63] [] [(byts rEncode2,stL []),(.bool rSame,stL []),(.bool rSame2,stL [])] (f3 hh c9 (f3 c11 (decide_eq_true c12) c3)) ?_ ?_
   ·exact ⟨zau.call (Pure.clr (zfn ax hx k t rEncode2 e7 ) (by first|rfl|simp only [c3,c9,c11])),zau.call (Pure.clr (zf4 ax hx k rEncode rEncode2 rSame e8 ) (by first|rfl|simp only [c3,c9,c11])),zau.call (Pure.clr (zhj ax hx k rDecode.1 rDecode2.1 rSame2 e10 ) (by first|rfl|simp only [c3,c9,c11])),trivial⟩
   clear hh h;intro h hh;cases H1;exact ce hh ⟨kq hh,rfl⟩
  clear hh h;rintro h bs ⟨hh,rfl⟩;rcases isb H with ⟨c16,H⟩|⟨c16,H⟩;rotate_left
  ·skip;repeat apply TW.seq
   refine cf (f2 hh c16) ?_;repeat apply TW.seq
   refine sk ?_;repeat apply TW.seq
   refine rk [0,5,64,65,66] [] (f3 hh c3 c16) ?_;clear hh h;intro h hh;obtain ⟨o3,H1,H⟩:=zad H;repeat apply TW.seq
   refine cu [0,5] 0 (fun h bs=>∃ s_3:Unit,o3=.inr s_3∧(h 0=zat t∧h 5=byts rEncode)∧bs=[]) ?_ ?_
   ·skip;repeat apply TW.seq
    apply TW.block;repeat apply TW.seq
    refine TW.loopT [0,5,64,65,66] (fun m h bs=>∃ (i:Int),zbb k t m i=some o3∧(h 0=zat t∧h 5=byts rEncode∧h 64=zat t∧h 65=.int .i64 (t.length:Int)∧h 66=.int .i64 i)∧bs=[]) ?_ k _ _ ?_;rotate_left
    ·exact ⟨0,H1,kq hh,rfl⟩
    clear hh h H1;rintro m h bs ⟨i,H1,hh,rfl⟩;rcases m with _|m
    ·rw [zbb] at H1;cases H1
    rw [zbb] at H1;repeat apply TW.seq
    refine rk [0,5,64,65,66,67] [] (f3 hh c3 c16) ?_;clear hh h;intro h hh;rcases isp H1 with ⟨c17,H1⟩|⟨c17,H1⟩;rotate_left
    ·skip;repeat apply TW.seq
     refine cf (f2 hh (decide_eq_false c17)) ?_;refine xk ?_;cases H1;exact ce hh ⟨_,rfl,kq hh,rfl⟩
    repeat apply TW.seq
    refine ct (f2 hh (decide_eq_true c17)) ?_;repeat apply TW.seq
    refine sk ?_;obtain ⟨o2,H2,H1⟩:=zad H1;repeat apply TW.seq
    refine cu [0,5,64,65,66] 0 (fun h bs=>∃ s_4:Unit,o2=.inr s_4∧(h 0=zat t∧h 5=byts rEncode∧h 64=zat t∧h 65=.int .i64 (t.length:Int)∧h 66=.int .i64 i)∧bs=[]) ?_ ?_
    ·skip;repeat apply TW.seq
     apply TW.block;obtain ⟨g18,H2⟩:=isg H2;repeat apply TW.seq
     refine rk [0,5,11,64,65,66] [] (f3 hh c3 (f2 c16 (za7 g18))) ?_;clear hh h;intro h hh;repeat apply TW.seq
     refine rk [0,5,11,64,65,66,73] [] (f3 hh c3 c16) ?_;clear hh h;intro h hh;rcases isp H2 with ⟨c19,H2⟩|⟨c19,H2⟩;rotate_left
     ·skip;repeat apply TW.seq
      refine cf (f2 hh (decide_eq_false c19)) ?_;repeat apply TW.seq
      refine sk ?_;repeat apply TW.seq
      refine rk [0,5,64,65,66,76,77,78] [] (f3 hh c3 c16) ?_;clear hh h;intro h hh;obtain ⟨o,H3,H2⟩:=zad H2;repeat apply TW.seq
      refine cu [0,5,64,65,66] 1 (fun h bs=>∃ s_5:Unit,o=.inr s_5∧(h 0=zat t∧h 5=byts rEncode∧h 64=zat t∧h 65=.int .i64 (t.length:Int)∧h 66=.int .i64 i)∧bs=[.cells true 23 (T.int .i64 ((gx t i).prio) :: ((((gx t i).mat).mask).l.map (T.int .i64)++((((gx t i).mat).bits).l.map (T.int .i64)++[T.int .i64 ((gx t i).step),zaj ((gx t i).outs)])))]) ?_ ?_
      ·skip;repeat apply TW.seq
       apply TW.block;repeat apply TW.seq
       refine TW.loopT [0,5,64,65,66,76,77,78] (fun m h bs=>∃ (i2:Int),zbi k t i m i2=some o∧(h 0=zat t∧h 5=byts rEncode∧h 64=zat t∧h 65=.int .i64 (t.length:Int)∧h 66=.int .i64 i∧h 76=zaj ((gx t i).outs)∧h 77=.int .i64 (((gx t i).outs).length:Int)∧h 78=.int .i64 i2)∧bs=[.cells true 23 (T.int .i64 ((gx t i).prio) :: ((((gx t i).mat).mask).l.map (T.int .i64)++((((gx t i).mat).bits).l.map (T.int .i64)++[T.int .i64 ((gx t i).step),zaj ((gx t i).outs)])))]) ?_ k _ _ ?_;rotate_left
       ·exact ⟨0,H3,kq hh,rfl⟩
       clear hh h H3;rintro m h bs ⟨i2,H3,hh,rfl⟩;rcases m with _|m
       ·rw [zbi] at H3;cases H3
       rw [zbi] at H3;repeat apply TW.seq
       refine rk [0,5,64,65,66,76,77,78,79] [] (f3 hh c3 c16) ?_;clear hh h;intro h hh;rcases isp H3 with ⟨c20,H3⟩|⟨c20,H3⟩;rotate_left
       ·skip;repeat apply TW.seq
        refine cf (f2 hh (decide_eq_false c20)) ?_;refine xk ?_;cases H3;exact ce hh ⟨_,rfl,kq hh,rfl⟩
       repeat apply TW.seq
       refine ct (f2 hh (decide_eq_true c20)) ?_;repeat apply TW.seq
       refine sk ?_;repeat apply TW.seq
       apply TW.block;obtain ⟨g21,H3⟩:=isg H3;repeat apply TW.seq
       refine rk [0,5,13,64,65,66,76,77,78] [] (f3 hh c3 (f2 c16 (za7 g21))) ?_;clear hh h;intro h hh;repeat apply TW.seq
       refine rk [0,5,64,65,66,76,77,78,84] [] (f3 hh c3 c16) ?_;clear hh h;intro h hh;rcases isp H3 with ⟨c22,H3⟩|⟨c22,H3⟩;rotate_left
       ·skip;repeat apply TW.seq
        refine cf (f2 hh (decide_eq_false c22)) ?_;repeat apply TW.seq
        refine sk ?_;repeat apply TW.seq
        refine rk [0,5,64,65,66,76,77,78] [] (f3 hh c3 c16) ?_;clear hh h;intro h hh;exact rd m hh ⟨(IntKind.i64.wrap (i2+1)),H3,kq hh,rfl⟩
       repeat apply TW.seq
       refine ct (f2 hh (decide_eq_true c22)) ?_;repeat apply TW.seq
       refine rkc [4] [] [(.bool true,stL [.cells true 23 (T.int .i64 ((gx t i).prio) :: ((((gx t i).mat).mask).l.map (T.int .i64)++((((gx t i).mat).bits).l.map (T.int .i64)++[T.int .i64 ((gx t i).step),zaj ((gx t i).outs)])))])] (f3 hh c3 c16) ?_ ?_
       ·exact ⟨zau.call (Pure.clr hx.san (by first|rfl|simp only [c3,c16])),trivial⟩
       clear hh h;intro h hh;cases H3;obtain rfl:=sinm H2;obtain rfl:=sinm H1;obtain rfl:=sinl H;exact rt hh
      clear hh h;rintro h bs ⟨s_5,rfl,hh,rfl⟩;replace H2:=sinr H2;cases H2;exact ce hh ⟨_,rfl,kq hh,rfl⟩
     repeat apply TW.seq
     refine ct (f2 hh (decide_eq_true c19)) ?_;repeat apply TW.seq
     refine rkc [4] [] [(.bool true,stL [.cells true 23 (T.int .i64 ((gx t i).prio) :: ((((gx t i).mat).mask).l.map (T.int .i64)++((((gx t i).mat).bits).l.map (T.int .i64)++[T.int .i64 ((gx t i).step),zaj ((gx t i).outs)])))])] (f3 hh c3 c16) ?_ ?_
     ·exact ⟨zau.call (Pure.clr hx.san (by first|rfl|simp only [c3,c16])),trivial⟩
     clear hh h;intro h hh;cases H2;obtain rfl:=sinm H1;obtain rfl:=sinl H;exact rt hh
    clear hh h;rintro h bs ⟨s_4,rfl,hh,rfl⟩;replace H1:=sinr H1;repeat apply TW.seq
    refine rk [0,5,64,65,66] [] (f3 hh c3 c16) ?_;clear hh h;intro h hh;exact rd m hh ⟨(IntKind.i64.wrap (i+1)),H1,kq hh,rfl⟩
   clear hh h;rintro h bs ⟨s_3,rfl,hh,rfl⟩;replace H:=sinr H;obtain ⟨rDecode3,e23,H⟩:=zad H;repeat apply TW.seq
   refine rkc [0,14,15] [] [(.tup [zat rDecode3.1,.int .i64 rDecode3.2],stL [])] (f3 hh c3 c16) ?_ ?_
   ·exact ⟨zau.call (Pure.clr (zj5 ax hx k rEncode rDecode3 e23 ) (by first|rfl|simp only [c3,c16])),trivial⟩
   clear hh h;intro h hh;rcases isp H with ⟨c24,H⟩|⟨c24,H⟩;rotate_left
   ·skip;repeat apply TW.seq
    refine rkc [4] [] [(.bool true,stL [])] (f3 hh (decide_eq_false c24) (f2 c3 c16)) ?_ ?_
    ·exact ⟨zau.call (Pure.clr hx.san (by first|rfl|simp only [c3,c16])),trivial⟩
    clear hh h;intro h hh;cases H;exact rt hh
   obtain ⟨rSame4,e25,H⟩:=zad H;repeat apply TW.seq
   refine rkc [4] [] [(.bool true,stL []),(.bool rSame4,stL [])] (f3 hh (decide_eq_true c24) (f2 c3 c16)) ?_ ?_
   ·exact ⟨zau.call (Pure.clr hx.san (by first|rfl|simp only [c3,c16])),zau.call (Pure.clr (zhj ax hx k rDecode3.1 t rSame4 e25 ) (by first|rfl|simp only [c3,c16])),trivial⟩
   clear hh h;intro h hh;cases H;exact rt hh
  repeat apply TW.seq
  refine ct (f2 hh c16) ?_;repeat apply TW.seq
  refine rk [4] [] (f3 hh c3 c16) ?_;clear hh h;intro h hh;cases H;exact rt hh
 repeat apply TW.seq
 refine ct (f2 hh c3) ?_;repeat apply TW.seq
 refine rkc [4] [] [(.bool true,stL [])] (f2 hh c3) ?_ ?_
 ·exact ⟨zau.call (Pure.clr hx.san (by first|rfl|simp only [c3])),trivial⟩
 clear hh h;intro h hh;cases H;exact rt hh
end
section
open Go Go.RowKit WM
set_option maxRecDepth 100000
theorem zn6 {α:Type} {l:List α} {g:α→List Int} {B:Nat} (h:∀ x,x∈l→(g x).length≤B):(l.flatMap g).length≤l.length*B:=by
  induction l with
  |nil=>simp
  |cons x l ih =>
    rw [List.flatMap_cons,List.length_append,List.length_cons,Nat.add_mul];have:=h x (.head _);have:=ih fun y hy=>h y (.tail _ hy);omega
theorem zln {a:Ar 10} (h:∀ x,x∈a.l→i64 x):(zc2 a.l).length≤110:=by
  have:=znd (by rw [a.h];decide) h;rw [a.h] at this;exact this
theorem z9r {t:List Rule} (hf:fewT t 12=true) (h:∀ r,r∈t→I64R r):(encT t).length≤600000:=by
  unfold fewT at hf;rw [Bool.and_eq_true,List.all_eq_true] at hf;obtain ⟨f1,f2⟩:=hf;have f2:=of_decide_eq_true f2
  have hR:∀ r,r∈t→(encR r).length≤46460:=fun r hr=>by
    have g:=f1 r hr;rw [Bool.and_eq_true,List.all_eq_true] at g;have g1:=of_decide_eq_true g.1;have hr':=h r hr
    have hO:∀ l,l∈r.outs→(encO l).length≤2310:=fun l hl=>by
      have g2:=of_decide_eq_true (g.2 l hl)
      have hA:∀ a,a∈l→(encA a).length≤230:=fun a ha=>by
        have q:=(hr'.outs l hl).2 a ha;have e1:=zhf q.link.1 q.link.2;have e2:=zln q.mod.mask;have e3:=zln q.mod.bits;unfold encA;rw [List.length_append,List.length_append];omega
      have b:=zn6 hA;have e1:=zhf (n:=(l.length:Int)) (by omega) (by omega);have:l.length*230≤10*230:=Nat.mul_le_mul_right _ (by omega);unfold encO;rw [List.length_append];omega
    have b:=zn6 hO;have e1:=zhf (n:=(r.outs.length:Int)) (by omega) (by omega);have e2:=zln hr'.mat.mask;have e3:=zln hr'.mat.bits;have e4:=znd (l:=[r.prio,r.step]) (by simp) (zuu hr');simp only [List.length_cons,List.length_nil] at e4;have:r.outs.length*2310≤20*2310:=Nat.mul_le_mul_right _ (by omega);rw [zv0,List.length_append];omega
  have b:=zn6 hR;have e1:=zhf (n:=(t.length:Int)) (by omega) (by omega);have:t.length*46460≤12*46460:=Nat.mul_le_mul_right _ (by omega);unfold encT;rw [List.length_append];omega
theorem zw2 {k:Nat} (a:List Int):zhk k a a=some true:=by unfold zhk;rw [decide_eq_true rfl]
theorem z9q {k:Nat} (hk:big≤k) (t:List Rule) (ht:z48 t):zbb k t k 0=some (if t.all (fun r=>decide (r.outs.length≤16) && r.outs.all fun l=>decide (l.length≤8))=true then .inr () else .inl true):=by
  have hk':9223372036854775808≤k:=hk;have htl:=ht.1;refine zpk (L:=zbb k t) t true _ htl (fun m j hj=>?_) (fun m=>by rw [zbb,if_neg (by omega)]) (by simp only [big] at htl;omega);have hr:=ht.2 _ (List.getElem_mem hj);have hrl:=hr.1;rw [zbb,if_pos (zbc hj),if_pos ⟨by omega,zbc hj⟩,zfi hj];by_cases c:16<((t[j]).outs.length:Int)
  · rw [if_pos c,Option.bind_some,Sum.elim_inl,decide_eq_false (by omega),Bool.false_and,if_neg (by simp)]
  · have inner:=zpk (L:=zbi k t (j:Int)) (t[j]).outs true (fun l=>decide (l.length≤8)) hrl (fun m' i hi=>by
      rw [zbi,zfi hj,if_pos (zbc hi),if_pos ⟨by omega,zbc hi⟩,zfi hi];by_cases c2:8<((t[j]).outs[i].length:Int)
      · rw [if_pos c2,decide_eq_false (by omega),if_neg (by simp)]
      · rw [if_neg c2,decide_eq_true (by omega),if_pos rfl]) (fun m'=>by rw [zbi,zfi hj,if_neg (by omega)]) (k:=k) (by simp only [big] at hrl;omega)
    rw [if_neg c,inner,Option.bind_some,decide_eq_true (by omega),Bool.true_and]
    cases (t[j]).outs.all fun l=>decide (l.length≤8) with
    |true=>rfl
    |false=>rfl
theorem z0l (t:List Rule) (b:List Int) (ht:z48 t) (h64:∀ r,r∈t→I64R r) (hb:∀ c,c∈b→0≤c∧c<256):∃ k,ze4 k t b=some true:=by
  refine ⟨big,?_⟩;generalize hk0:big=k;have hk:big≤k:=Nat.le_of_eq hk0;unfold ze4;rw [yha t 12 ht hk,Option.bind_some]
  cases hf:fewT t 12 with
  |false=>rfl
  |true =>
    rw [if_pos rfl,Option.bind_some];by_cases c1:3000<(b.length:Int)
    · rw [if_pos (decide_eq_true c1)]
    · rw [if_neg (by rw [decide_eq_true_eq];exact c1)]
      obtain ⟨l,rfl⟩:∃ l:List UInt8,b=bvi l:=⟨b.map fun c=>UInt8.ofNat c.toNat,by
        unfold bvi tn;rw [List.map_map]
        conv=>lhs;rw [← List.map_id b]
        refine List.map_congr_left fun c hc=>?_;have:=hb c hc;show c=_;simp only [Function.comp_apply]
        rw [zdu (by omega)];omega⟩
      rw [zd3] at c1;have hl:l.length≤1000000:=by omega
      have hfb:=z9r hf h64;have htl:t.length<9223372036854775808:=ht.1;rw [zog hk t htl h64 (by omega),Option.bind_some,zoh hk l hl,Option.bind_some,z43 hk l hl,Option.bind_some]
      have okx:z48 (zkv (pT l)).1:=by
        cases hp:pT l with
        |error e=>exact ⟨show 0<big by decide,fun r hr=>by cases hr⟩
        |ok t' =>
          obtain ⟨_,a2,a3⟩:=z2m hp;exact ⟨Nat.lt_of_le_of_lt a2 (by decide),fun r hr=>⟨Nat.lt_of_le_of_lt (a3 r hr).len (by decide),fun l hl=>Nat.lt_of_le_of_lt ((a3 r hr).outs l hl).1 (by decide)⟩⟩
      have step1:(((zg1 k t).bind fun rEncode2=>((zhk k (encT t) rEncode2).bind fun rSame=>(if rSame=true then ((zid k (zkv (pT l)).1 (zkv (pT l)).1).bind fun rSame2=>(if rSame2=true then (if (zkv (pT l)).2≠(zkv (pT l)).2 then some true else (if (zkv (pT l)).2=0 then ((zeh k (zkv (pT l)).1).bind fun rEncode3=>((zhk k rEncode3 (bvi l)).bind fun rSame3=>some (!rSame3))) else some false)) else some true)) else some true))):Option Bool)=some false:=by
        rw [z42 hk t htl h64 (by omega),Option.bind_some,zw2,Option.bind_some,if_pos rfl,z2g _ _ okx hk,Option.bind_some,if_pos (decide_eq_true rfl),if_neg (fun h=>h rfl)]
        cases hp:pT l with
        |error e=>exact if_neg (pT_ne hk hl hp)
        |ok t' =>
          obtain ⟨a1,a2,a3⟩:=z2m hp;have e1:bvi l=encT t':=by rw [a1,yat]
          have e2:(encT t').length=l.length:=by rw [← e1,zd3]
          unfold zkv;dsimp only;rw [if_pos rfl,zog hk t' (by omega) (fun r hr=>(a3 r hr).ok) (by omega),Option.bind_some,e1,zw2];rfl
      rw [step1,Option.bind_some,if_neg (by simp),z9q hk t ht,Option.bind_some]
      cases hq:t.all (fun r=>decide (r.outs.length≤16) && r.outs.all fun l=>decide (l.length≤8)) with
      |false=>rfl
      |true =>
        rw [if_pos rfl,Sum.elim_inr];rw [List.all_eq_true] at hq
        have few:∀ r,r∈t→FewR r:=fun r hr=>by
          have g:=hq r hr;rw [Bool.and_eq_true,List.all_eq_true] at g;have q:=h64 r hr;exact ⟨q.prio,q.step,q.mat,of_decide_eq_true g.1,fun l hl=>⟨of_decide_eq_true (g.2 l hl),(q.outs l hl).2⟩⟩
        have ht12:t.length≤12:=by
          unfold fewT at hf;rw [Bool.and_eq_true] at hf;have:=of_decide_eq_true hf.2;omega
        have hlen:(eT t).length=(encT t).length:=by rw [← yat,zd3]
        rw [← yat,zoh hk (eT t) (by omega),Option.bind_some,ybr (by omega) few];unfold zkv;dsimp only;rw [if_pos rfl,z2g t t ht hk,Option.bind_some,decide_eq_true rfl]
end
section
open Go Go.RowKit
theorem yhg {r:Rule} (h:zwo r):zxt r:=⟨h.2.2.2.1,fun l hl=>(h.2.2.2.2 l hl).1⟩
theorem yjg {t:List Rule} (h:t.length<big∧∀ y,y∈t→zwo y):z48 t:=⟨h.1,fun r hr=>yhg (h.2 r hr)⟩
end
section
open Go Go.RowKit
theorem i64RW {r:Rule} (h:zwo r):I64R r:=⟨h.1,h.2.2.1,⟨h.2.1.1,h.2.1.2⟩,h.2.2.2.1,fun l hl=>⟨(h.2.2.2.2 l hl).1,fun a ha=>⟨((h.2.2.2.2 l hl).2 a ha).1,((h.2.2.2.2 l hl).2 a ha).2.1,((h.2.2.2.2 l hl).2 a ha).2.2⟩⟩⟩
theorem law7w (t:List Rule) (b:List Int) (wt:t.length<big∧∀ y,y∈t→zwo y) (wb:b.length<big∧∀ y,y∈b→inB y):∃ k,ze4 k t b=some true :=
  z0l t b (yjg wt) (fun r hr=>i64RW (wt.2 r hr)) wb.2
end
end Go.Proofs.YtjgbkegkcbcjaaaGreat
