/- Part 9 of the proof of TableExchangesRules (several texts in one; no further condition). -/
import Derived.Test.YtjgbkegkcbcjaaaGreatZH
import Derived.Test.YtjgbkegkcbcjaaaGreatZF
set_option linter.unusedSimpArgs false
set_option linter.unusedVariables false
set_option linter.unusedSectionVars false
namespace Go.Proofs.YtjgbkegkcbcjaaaGreat
section
open Go Go.RowKit
set_option maxRecDepth 100000
def zdb (k:Nat) (t:List Rule) (k_:Int):Nat→Int→(List Pat)→Nat→Option (List Pat×Nat)
 |0,_,_,_=>none
 |m+1,i,l,n=>(if i<k_ then (if (0:Int)≤i∧i<(t.length:Int) then (if (n+1)*161≤1000000000 then zdb k t k_ m (IntKind.i64.wrap (i+1)) (l++[(gx t i).mat]) (n+1) else none) else none) else some (l,n))
def zhp (k:Nat) (t:List Rule) (k_:Int):Option (List Pat):=((zdb k t k_ k 0 [] 0:Option (List Pat×Nat)).bind fun s_=>(if s_.1.length=s_.2 then some s_.1 else none))
set_option maxHeartbeats 8000000 in
theorem zsh (ax:Axs) (hx:zcs ax) (k:Nat) (t:List Rule) (k_:Int) (v:List Pat) (H:zhp k t k_=some v):Pure Tryz.prog (EE ax) [] 70 [zbd t,.int .i64 k_] (lPat v):=by
 rw [zhp] at H;refine en [.tmp 4] 21 [0,1] (hx.no _ (by decide)) (fn70 ax) ?_;intro h hh;repeat apply TW.seq
 refine rk [0,1] [] hh ?_;clear hh h;intro h hh;repeat apply TW.seq
 refine rk [0,1,5] [] hh ?_;clear hh h;intro h hh;refine vk 5 20 [0,1,5] hh ?_;clear hh h;intro h hh;repeat apply TW.seq
 refine rk [0,1,5,6] [] hh ?_;clear hh h;intro h hh;obtain ⟨s_,H1,H⟩:=zaf H;repeat apply TW.seq
 refine cu [5] 1 (fun h bs=>(h 5=.arr 0 20 0 s_.2 s_.2 (s_.2*20))∧bs=[.cells false (s_.2*20) (vecC ePat s_.1)]) ?_ ?_
 ·skip;repeat apply TW.seq
  apply TW.block;repeat apply TW.seq
  refine TW.loopT [0,1,5,6] (fun m h bs=>∃ (i:Int) (l:List Pat) (n:Nat),zdb k t k_ m i l n=some s_∧(h 0=zbd t∧h 1=.int .i64 k_∧h 5=.arr 0 20 0 n n (n*20)∧h 6=.int .i64 i)∧bs=[.cells false (n*20) (vecC ePat l)]) ?_ k _ _ ?_;rotate_left
  ·exact ⟨0,[],0,H1,kq hh,rfl⟩
  clear hh h H1;rintro m h bs ⟨i,l,n,H1,hh,rfl⟩;rcases m with _|m
  ·rw [zdb] at H1;cases H1
  rw [zdb] at H1;repeat apply TW.seq
  refine rk [0,1,5,6,9] [] hh ?_;clear hh h;intro h hh;rcases isp H1 with ⟨c1,H1⟩|⟨c1,H1⟩;rotate_left
  ·skip;repeat apply TW.seq
   refine cf (f2 hh (decide_eq_false c1)) ?_;refine xk ?_;cases H1;exact ce hh ⟨kq hh,rfl⟩
  repeat apply TW.seq
  refine ct (f2 hh (decide_eq_true c1)) ?_;repeat apply TW.seq
  refine sk ?_;repeat apply TW.seq
  apply TW.block;obtain ⟨g2,H1⟩:=isg H1;obtain ⟨g3,H1⟩:=isg H1;repeat apply TW.seq
  refine rg [] [] [.cells false ((n+1)*20) (vecC ePat (l++[(gx t i).mat]))] (fun h=>h 0=zbd t∧h 1=.int .i64 k_∧h 5=.arr 0 20 0 (n+1) (n+1) ((n+1)*20)∧h 6=.int .i64 i) (f3 hh (zar g2) (f3 ((show vecC ePat [(gx t i).mat]=((((gx t i).mat).mask).l.map (T.int .i64)++((((gx t i).mat).bits).l.map (T.int .i64))) from zmd.trans rfl)) (z58 ax) (ybx ax))) trivial ?_;clear hh h;intro h hh;repeat apply TW.seq
  refine rk [0,1,5,6] [] hh ?_;clear hh h;intro h hh;exact rd m hh ⟨(IntKind.i64.wrap (i+1)),(l++[(gx t i).mat]),(n+1),H1,kq hh,rfl⟩
 clear hh h;rintro h bs ⟨hh,rfl⟩;repeat apply TW.seq
 refine rk [4] [] hh ?_;clear hh h;intro h hh;obtain ⟨g4,H⟩:=isg H;refine TW.freeze 4 (b:=0) (e:=20) (off:=0) (len:=s_.2) (cap:=s_.2) (M:=(s_.2*20)) (s_.1.map ePat) (kq hh) (by rfl) (by omega) (by omega) (by rw [List.drop_zero];exact zir (fun x=>zcu x) g4) (fun t ht=>by obtain ⟨x,_,rfl⟩:=List.mem_map.1 ht;first|rfl|exact zl2 _|exact zcu _|exact zjw _|exact za6 _ | (rw [List.length_map];rfl)) (by rw [List.length_map];exact g4) (by omega) ?_;rw [ziu _ _ _ (by simp only [lzA]<;>omega)];simp only [scA];refine gk [4] hh ?_;clear hh h;intro h hh;cases H;exact rt hh
def zeo (k:Nat) (q:Pat):Nat→Int→(Ar 10)→(Ar 10)→Option ((Pat×Bool) ⊕ (Ar 10×Ar 10))
 |0,_,_,_=>none
 |m+1,i,x,x2=>(if i<160 then ((zez k q.mask i).bind fun rBit=>(if rBit=0 then zeo k q m (IntKind.i64.wrap (i+1)) x x2 else ((((zez k x i).bind fun rBit2=>(if rBit2=1 then ((zez k x2 i).bind fun rBit3=>((zez k q.bits i).bind fun rBit4=>some (decide (rBit3≠rBit4)))) else some false)):Option Bool).bind fun s_2=>(if s_2=true then some (.inl ((⟨(zA 10),(zA 10)⟩:Pat),false)) else ((zh4 k x i 1).bind fun rset=>((zez k q.bits i).bind fun rBit5=>((zh4 k x2 i rBit5).bind fun rset2=>zeo k q m (IntKind.i64.wrap (i+1)) rset rset2))))))) else some (.inr (x,x2)))
def zmk (k:Nat) (p:Pat) (q:Pat):Option (Pat×Bool):=((zeo k q k 0 p.mask p.bits:Option ((Pat×Bool) ⊕ (Ar 10×Ar 10))).bind fun o=>Sum.elim (fun r=>some r) (fun s_=>some ((⟨s_.1,s_.2⟩:Pat),true)) o)
set_option maxHeartbeats 8000000 in
theorem z0o (ax:Axs) (hx:zcs ax) (k:Nat) (p:Pat) (q:Pat) (v:Pat×Bool) (H:zmk k p q=some v):Pure Tryz.prog (EE ax) [] 77 [ePat p,ePat q] (tupT [ePat v.1,.bool v.2]):=by
 rw [zmk] at H;refine enN [.cell 4 41,.tmp 5] 48 [0,1] (hx.no _ (by decide)) (fn77 ax) ?_;intro h hh;repeat apply TW.seq
 refine rk [2,3,4] [] hh ?_;clear hh h;intro h hh;repeat apply TW.seq
 refine rk [2,3,4,6] [] hh ?_;clear hh h;intro h hh;obtain ⟨o,H1,H⟩:=zaf H;repeat apply TW.seq
 refine cu [2,4] 3 (fun h bs=>∃ s_:Ar 10×Ar 10,o=.inr s_∧(h 2=.ptr 0 0 20∧h 4=.ptr 2 0 20)∧bs=[.cells true 20 (s_.1.l.map (T.int .i64)++(s_.2.l.map (T.int .i64))),.cells true 20 (q.mask.l.map (T.int .i64)++(q.bits.l.map (T.int .i64))),.cells true 20 ((zA 10).l.map (T.int .i64)++((zA 10).l.map (T.int .i64)))]) ?_ ?_
 ·skip;repeat apply TW.seq
  apply TW.block;repeat apply TW.seq
  refine TW.loopT [2,3,4,6] (fun m h bs=>∃ (i:Int) (x:Ar 10) (x2:Ar 10),zeo k q m i x x2=some o∧(h 2=.ptr 0 0 20∧h 3=.ptr 1 0 20∧h 4=.ptr 2 0 20∧h 6=.int .i64 i)∧bs=[.cells true 20 (x.l.map (T.int .i64)++(x2.l.map (T.int .i64))),.cells true 20 (q.mask.l.map (T.int .i64)++(q.bits.l.map (T.int .i64))),.cells true 20 ((zA 10).l.map (T.int .i64)++((zA 10).l.map (T.int .i64)))]) ?_ k _ _ ?_;rotate_left
  ·exact ⟨0,p.mask,p.bits,H1,kq hh,rfl⟩
  clear hh h H1;rintro m h bs ⟨i,x,x2,H1,hh,rfl⟩;rcases m with _|m
  ·rw [zeo] at H1;cases H1
  rw [zeo] at H1;repeat apply TW.seq
  refine rk [2,3,4,6,8] [] hh ?_;clear hh h;intro h hh;rcases isp H1 with ⟨c1,H1⟩|⟨c1,H1⟩;rotate_left
  ·skip;repeat apply TW.seq
   refine cf (f2 hh (decide_eq_false c1)) ?_;refine xk ?_;cases H1;exact ce hh ⟨_,rfl,kq hh,rfl⟩
  repeat apply TW.seq
  refine ct (f2 hh (decide_eq_true c1)) ?_;repeat apply TW.seq
  refine sk ?_;repeat apply TW.seq
  apply TW.block;obtain ⟨rBit,e2,H1⟩:=zaf H1;repeat apply TW.seq
  refine rkc [2,3,4,6,15] [] [(.int .i64 rBit,stL [.cells true 20 (x.l.map (T.int .i64)++(x2.l.map (T.int .i64))),.cells true 20 (q.mask.l.map (T.int .i64)++(q.bits.l.map (T.int .i64))),.cells true 20 ((zA 10).l.map (T.int .i64)++((zA 10).l.map (T.int .i64)))])] hh ?_ ?_
  ·exact ⟨za4.call ((zdc ax hx k q.mask i rBit e2 ).call _),trivial⟩
  clear hh h;intro h hh;rcases isp H1 with ⟨c3,H1⟩|⟨c3,H1⟩;rotate_left
  ·skip;repeat apply TW.seq
   refine cf (f2 hh (decide_eq_false c3)) ?_;repeat apply TW.seq
   refine sk ?_;obtain ⟨s_2,H2,H1⟩:=zaf H1;repeat apply TW.seq
   refine cu [2,3,4,6,31] 3 (fun h bs=>(h 2=.ptr 0 0 20∧h 3=.ptr 1 0 20∧h 4=.ptr 2 0 20∧h 6=.int .i64 i∧h 31=.bool s_2)∧bs=[.cells true 20 (x.l.map (T.int .i64)++(x2.l.map (T.int .i64))),.cells true 20 (q.mask.l.map (T.int .i64)++(q.bits.l.map (T.int .i64))),.cells true 20 ((zA 10).l.map (T.int .i64)++((zA 10).l.map (T.int .i64)))]) ?_ ?_
   ·skip;obtain ⟨rBit2,e4,H2⟩:=zaf H2;rcases isp H2 with ⟨c5,H2⟩|⟨c5,H2⟩;rotate_left
    ·skip;repeat apply TW.seq
     refine dk 12 [2,3,4,6,31] [.int .i64 rBit2] [] [] (f2 hh (decide_eq_false c5)) ?_ trivial ?_
     ·exact ⟨(zdc ax hx k x i rBit2 e4 ).call _,trivial⟩
     clear hh h;intro h hh;cases H2;exact ce hh ⟨kq hh,rfl⟩
    obtain ⟨rBit3,e6,H2⟩:=zaf H2;obtain ⟨rBit4,e7,H2⟩:=zaf H2;repeat apply TW.seq
    refine dk 12 [2,3,4,6,31] [.int .i64 rBit2,.int .i64 rBit3] [] [(.int .i64 rBit4,stL [.cells true 20 (x.l.map (T.int .i64)++(x2.l.map (T.int .i64))),.cells true 20 (q.mask.l.map (T.int .i64)++(q.bits.l.map (T.int .i64))),.cells true 20 ((zA 10).l.map (T.int .i64)++((zA 10).l.map (T.int .i64)))])] (f2 hh (decide_eq_true c5)) ?_ ?_ ?_
    ·exact ⟨(zdc ax hx k x i rBit2 e4 ).call _,(zdc ax hx k x2 i rBit3 e6 ).call _,trivial⟩
    ·exact ⟨za4.call ((zdc ax hx k q.bits i rBit4 e7 ).call _),trivial⟩
    clear hh h;intro h hh;cases H2;exact ce hh ⟨kq hh,rfl⟩
   clear hh h;rintro h bs ⟨hh,rfl⟩;rcases isb H1 with ⟨c8,H1⟩|⟨c8,H1⟩;rotate_left
   ·skip;repeat apply TW.seq
    refine cf (f2 hh c8) ?_;repeat apply TW.seq
    refine sk ?_;obtain ⟨rset,e9,H1⟩:=zaf H1;repeat apply TW.seq
    refine rkc [2,3,4,6] [] [(.agg (rset.l.map (T.int .i64)),stL [.cells true 20 (x.l.map (T.int .i64)++(x2.l.map (T.int .i64))),.cells true 20 (q.mask.l.map (T.int .i64)++(q.bits.l.map (T.int .i64))),.cells true 20 ((zA 10).l.map (T.int .i64)++((zA 10).l.map (T.int .i64)))])] (f2 hh c8) ?_ ?_
    ·exact ⟨za4.call (Pure.clr (zls ax hx k x i 1 rset e9 ) (by first|rfl|simp only [c8])),trivial⟩
    clear hh h;intro h hh;obtain ⟨rBit5,e10,H1⟩:=zaf H1;obtain ⟨rset2,e11,H1⟩:=zaf H1;repeat apply TW.seq
    refine dk 7 [2,3,4,6] [.int .i64 rBit5] [] [(.agg (rset2.l.map (T.int .i64)),stL [.cells true 20 (rset.l.map (T.int .i64)++(x2.l.map (T.int .i64))),.cells true 20 (q.mask.l.map (T.int .i64)++(q.bits.l.map (T.int .i64))),.cells true 20 ((zA 10).l.map (T.int .i64)++((zA 10).l.map (T.int .i64)))])] (f2 hh c8) ?_ ?_ ?_
    ·exact ⟨Pure.clr (zdc ax hx k q.bits i rBit5 e10 ) (by first|rfl|simp only [c8]),trivial⟩
    ·exact ⟨za4.call (Pure.clr (zls ax hx k x2 i rBit5 rset2 e11 ) (by first|rfl|simp only [c8])),trivial⟩
    clear hh h;intro h hh;repeat apply TW.seq
    refine rk [2,3,4,6] [] (f2 hh c8) ?_;clear hh h;intro h hh;exact rd m hh ⟨(IntKind.i64.wrap (i+1)),rset,rset2,H1,kq hh,rfl⟩
   repeat apply TW.seq
   refine ct (f2 hh c8) ?_;repeat apply TW.seq
   refine rk [4,5] [] (f2 hh c8) ?_;clear hh h;intro h hh;cases H1;obtain rfl:=sinl H;exact rtc hh
  repeat apply TW.seq
  refine ct (f2 hh (decide_eq_true c3)) ?_;refine xk ?_;repeat apply TW.seq
  refine rk [2,3,4,6] [] hh ?_;clear hh h;intro h hh;exact rd m hh ⟨(IntKind.i64.wrap (i+1)),x,x2,H1,kq hh,rfl⟩
 clear hh h;rintro h bs ⟨s_,rfl,hh,rfl⟩;replace H:=sinr H;repeat apply TW.seq
 refine rk [4,5] [] hh ?_;clear hh h;intro h hh;cases H;exact rtc hh
def zgv (k:Nat) (p:Pat) (q:Pat):Option Bool:=((zmk k p q).bind fun rAnd=>some rAnd.2)
set_option maxHeartbeats 8000000 in
theorem zqf (ax:Axs) (hx:zcs ax) (k:Nat) (p:Pat) (q:Pat) (v:Bool) (H:zgv k p q=some v):Pure Tryz.prog (EE ax) [] 39 [ePat p,ePat q] (.bool v):=by
 rw [zgv] at H;refine en [.tmp 4] 14 [0,1] (hx.no _ (by decide)) (fn39 ax) ?_;intro h hh;repeat apply TW.seq
 refine rk [2,3] [] hh ?_;clear hh h;intro h hh;obtain ⟨rAnd,e1,H⟩:=zaf H;repeat apply TW.seq
 refine rkc [6] [] [(.tup [ePat rAnd.1,.bool rAnd.2],stL [.cells true 20 (p.mask.l.map (T.int .i64)++(p.bits.l.map (T.int .i64))),.cells true 20 (q.mask.l.map (T.int .i64)++(q.bits.l.map (T.int .i64)))])] hh ?_ ?_
 ·exact ⟨za4.call ((z0o ax hx k p q rAnd e1 ).call _),trivial⟩
 clear hh h;intro h hh;repeat apply TW.seq
 refine rk [4] [] hh ?_;clear hh h;intro h hh;cases H;exact rt hh
def zbs (k:Nat) (l:List Pat):Nat→Int→Option (Bool ⊕ Unit)
 |0,_=>none
 |m+1,i=>(if i<(l.length:Int) then (if (0:Int)≤i∧i<(l.length:Int) then ((zgh k (gx l i)).bind fun rRight=>(if rRight=true then zbs k l m (IntKind.i64.wrap (i+1)) else some (.inl false))) else none) else some (.inr ()))
def zfx (k:Nat) (l:List Pat):Option Bool:=((zbs k l k 0:Option (Bool ⊕ Unit)).bind fun o=>Sum.elim (fun r=>some r) (fun s_=>some true) o)
set_option maxHeartbeats 8000000 in
theorem zpa (ax:Axs) (hx:zcs ax) (k:Nat) (l:List Pat) (v:Bool) (H:zfx k l=some v):Pure Tryz.prog (EE ax) [] 138 [lPat l] (.bool v):=by
 rw [zfx] at H;refine en [.tmp 2] 18 [0] (hx.no _ (by decide)) (fn138 ax) ?_;intro h hh;repeat apply TW.seq
 refine rk [0] [] hh ?_;clear hh h;intro h hh;repeat apply TW.seq
 refine rk [0,3] [] hh ?_;clear hh h;intro h hh;obtain ⟨o,H1,H⟩:=zaf H;repeat apply TW.seq
 refine cu [] 0 (fun h bs=>∃ s_:Unit,o=.inr s_∧(True)∧bs=[]) ?_ ?_
 ·skip;repeat apply TW.seq
  apply TW.block;repeat apply TW.seq
  refine TW.loopT [0,3] (fun m h bs=>∃ (i:Int),zbs k l m i=some o∧(h 0=lPat l∧h 3=.int .i64 i)∧bs=[]) ?_ k _ _ ?_;rotate_left
  ·exact ⟨0,H1,kq hh,rfl⟩
  clear hh h H1;rintro m h bs ⟨i,H1,hh,rfl⟩;rcases m with _|m
  ·rw [zbs] at H1;cases H1
  rw [zbs] at H1;repeat apply TW.seq
  refine rk [0,3,8] [] (f2 hh (znp ax)) ?_;clear hh h;intro h hh;rcases isp H1 with ⟨c1,H1⟩|⟨c1,H1⟩;rotate_left
  ·skip;repeat apply TW.seq
   refine cf (f2 hh (decide_eq_false c1)) ?_;refine xk ?_;cases H1;exact ce hh ⟨_,rfl,kq hh,rfl⟩
  repeat apply TW.seq
  refine ct (f2 hh (decide_eq_true c1)) ?_;repeat apply TW.seq
  refine sk ?_;repeat apply TW.seq
  apply TW.block;obtain ⟨g2,H1⟩:=isg H1;obtain ⟨rRight,e3,H1⟩:=zaf H1;repeat apply TW.seq
  refine rkc [0,3,4] [] [(.bool rRight,stL [])] (f3 hh (zar g2) (znp ax)) ?_ ?_
  ·exact ⟨za4.call ((zjh ax hx k (gx l i) rRight e3 ).call _),trivial⟩
  clear hh h;intro h hh;repeat apply TW.seq
  refine rk [0,3,17] [] hh ?_;clear hh h;intro h hh;rcases isb H1 with ⟨c4,H1⟩|⟨c4,H1⟩;rotate_left
  ·skip;repeat apply TW.seq
   refine ct (f2 hh c4) ?_;repeat apply TW.seq
   refine rk [2] [] (f2 hh c4) ?_;clear hh h;intro h hh;cases H1;obtain rfl:=sinl H;exact rt hh
  repeat apply TW.seq
  refine cf (f2 hh c4) ?_;repeat apply TW.seq
  refine sk ?_;repeat apply TW.seq
  refine rk [0,3] [] (f2 hh c4) ?_;clear hh h;intro h hh;exact rd m hh ⟨(IntKind.i64.wrap (i+1)),H1,kq hh,rfl⟩
 clear hh h;rintro h bs ⟨s_,rfl,hh,rfl⟩;replace H:=sinr H;repeat apply TW.seq
 refine rk [2] [] hh ?_;clear hh h;intro h hh;cases H;exact rt hh
def zdn (k:Nat) (p:Pat):Nat→Int→Int→Option Int
 |0,_,_=>none
 |m+1,n,i=>(if i<160 then ((zez k p.mask i).bind fun rBit=>zdn k p m (IntKind.i64.wrap ((IntKind.i64.wrap (n+1)) - rBit)) (IntKind.i64.wrap (i+1))) else some n)
def zkd (k:Nat) (p:Pat):Option Int:=((zdn k p k 0 0:Option Int).bind fun s_=>some s_)
set_option maxHeartbeats 8000000 in
theorem zxl (ax:Axs) (hx:zcs ax) (k:Nat) (p:Pat) (v:Int) (H:zkd k p=some v):Pure Tryz.prog (EE ax) [] 149 [ePat p] (.int .i64 v):=by
 rw [zkd] at H;refine en [.tmp 2] 17 [0] (hx.no _ (by decide)) (fn149 ax) ?_;intro h hh;repeat apply TW.seq
 refine rk [1] [] hh ?_;clear hh h;intro h hh;repeat apply TW.seq
 refine rk [1,3] [] hh ?_;clear hh h;intro h hh;repeat apply TW.seq
 refine rk [1,3,4] [] hh ?_;clear hh h;intro h hh;obtain ⟨s_,H1,H⟩:=zaf H;repeat apply TW.seq
 refine cu [3] 1 (fun h bs=>(h 3=.int .i64 s_)∧bs=[.cells true 20 (p.mask.l.map (T.int .i64)++(p.bits.l.map (T.int .i64)))]) ?_ ?_
 ·skip;repeat apply TW.seq
  apply TW.block;repeat apply TW.seq
  refine TW.loopT [1,3,4] (fun m h bs=>∃ (n:Int) (i:Int),zdn k p m n i=some s_∧(h 1=.ptr 0 0 20∧h 3=.int .i64 n∧h 4=.int .i64 i)∧bs=[.cells true 20 (p.mask.l.map (T.int .i64)++(p.bits.l.map (T.int .i64)))]) ?_ k _ _ ?_;rotate_left
  ·exact ⟨0,0,H1,kq hh,rfl⟩
  clear hh h H1;rintro m h bs ⟨n,i,H1,hh,rfl⟩;rcases m with _|m
  ·rw [zdn] at H1;cases H1
  rw [zdn] at H1;repeat apply TW.seq
  refine rk [1,3,4,6] [] hh ?_;clear hh h;intro h hh;rcases isp H1 with ⟨c1,H1⟩|⟨c1,H1⟩;rotate_left
  ·skip;repeat apply TW.seq
   refine cf (f2 hh (decide_eq_false c1)) ?_;refine xk ?_;cases H1;exact ce hh ⟨kq hh,rfl⟩
  repeat apply TW.seq
  refine ct (f2 hh (decide_eq_true c1)) ?_;repeat apply TW.seq
  refine sk ?_;repeat apply TW.seq
  apply TW.block;obtain ⟨rBit,e2,H1⟩:=zaf H1;repeat apply TW.seq
  refine rkc [1,3,4] [] [(.int .i64 rBit,stL [.cells true 20 (p.mask.l.map (T.int .i64)++(p.bits.l.map (T.int .i64)))])] hh ?_ ?_
  ·exact ⟨za4.call ((zdc ax hx k p.mask i rBit e2 ).call _),trivial⟩
  clear hh h;intro h hh;repeat apply TW.seq
  refine rk [1,3,4] [] hh ?_;clear hh h;intro h hh;exact rd m hh ⟨(IntKind.i64.wrap ((IntKind.i64.wrap (n+1)) - rBit)),(IntKind.i64.wrap (i+1)),H1,kq hh,rfl⟩
 clear hh h;rintro h bs ⟨hh,rfl⟩;repeat apply TW.seq
 refine rk [2] [] hh ?_;clear hh h;intro h hh;cases H;exact rt hh
def zd1 (k:Nat) (l:List Pat):Nat→Int→(Ar 10)→Option (Ar 10)
 |0,_,_=>none
 |m+1,i,x=>(if i<(l.length:Int) then (if (0:Int)≤i∧i<(l.length:Int) then ((zi0 k (⟨(gx l i).mask,(gx l i).mask⟩:Pat) x).bind fun rApply=>zd1 k l m (IntKind.i64.wrap (i+1)) rApply) else none) else some x)
def ziz (k:Nat) (l:List Pat):Option Int:=((zd1 k l k 0 (zA 10):Option (Ar 10)).bind fun s_=>((zkd k (⟨s_,(zA 10)⟩:Pat)).bind fun rFree=>some (IntKind.i64.wrap (160 - rFree))))
set_option maxHeartbeats 8000000 in
theorem zvr (ax:Axs) (hx:zcs ax) (k:Nat) (l:List Pat) (v:Int) (H:ziz k l=some v):Pure Tryz.prog (EE ax) [] 139 [lPat l] (.int .i64 v):=by
 rw [ziz] at H;refine en [.tmp 2] 30 [0] (hx.no _ (by decide)) (fn139 ax) ?_;intro h hh;repeat apply TW.seq
 refine rk [0] [] hh ?_;clear hh h;intro h hh;repeat apply TW.seq
 refine rk [0,3] [] hh ?_;clear hh h;intro h hh;repeat apply TW.seq
 refine rk [0,3,4] [] hh ?_;clear hh h;intro h hh;obtain ⟨s_,H1,H⟩:=zaf H;repeat apply TW.seq
 refine cu [3] 1 (fun h bs=>(h 3=.ptr 0 0 20)∧bs=[.cells true 20 (s_.l.map (T.int .i64)++((zA 10).l.map (T.int .i64)))]) ?_ ?_
 ·skip;repeat apply TW.seq
  apply TW.block;repeat apply TW.seq
  refine TW.loopT [0,3,4] (fun m h bs=>∃ (i:Int) (x:Ar 10),zd1 k l m i x=some s_∧(h 0=lPat l∧h 3=.ptr 0 0 20∧h 4=.int .i64 i)∧bs=[.cells true 20 (x.l.map (T.int .i64)++((zA 10).l.map (T.int .i64)))]) ?_ k _ _ ?_;rotate_left
  ·exact ⟨0,(zA 10),H1,kq hh,rfl⟩
  clear hh h H1;rintro m h bs ⟨i,x,H1,hh,rfl⟩;rcases m with _|m
  ·rw [zd1] at H1;cases H1
  rw [zd1] at H1;repeat apply TW.seq
  refine rk [0,3,4,9] [] (f2 hh (znp ax)) ?_;clear hh h;intro h hh;rcases isp H1 with ⟨c1,H1⟩|⟨c1,H1⟩;rotate_left
  ·skip;repeat apply TW.seq
   refine cf (f2 hh (decide_eq_false c1)) ?_;refine xk ?_;cases H1;exact ce hh ⟨kq hh,rfl⟩
  repeat apply TW.seq
  refine ct (f2 hh (decide_eq_true c1)) ?_;repeat apply TW.seq
  refine sk ?_;repeat apply TW.seq
  apply TW.block;obtain ⟨g2,H1⟩:=isg H1;obtain ⟨rApply,e3,H1⟩:=zaf H1;repeat apply TW.seq
  refine dk 13 [0,3,4] [] [] [(.agg (rApply.l.map (T.int .i64)),stL [.cells true 20 (x.l.map (T.int .i64)++((zA 10).l.map (T.int .i64)))])] (f3 hh (zar g2) (f3 (bt92 ax) (yj5 ax) (f3 (yjh ax) (yjg ax) (znp ax)))) trivial ?_ ?_
  ·exact ⟨za4.call ((zvs ax hx k (⟨(gx l i).mask,(gx l i).mask⟩:Pat) x rApply e3 ).call _),trivial⟩
  clear hh h;intro h hh;repeat apply TW.seq
  refine rk [0,3,4] [] hh ?_;clear hh h;intro h hh;exact rd m hh ⟨(IntKind.i64.wrap (i+1)),rApply,H1,kq hh,rfl⟩
 clear hh h;rintro h bs ⟨hh,rfl⟩;obtain ⟨rFree,e4,H⟩:=zaf H;repeat apply TW.seq
 refine rkc [2] [] [(.int .i64 rFree,stL [.cells true 20 (s_.l.map (T.int .i64)++((zA 10).l.map (T.int .i64)))])] hh ?_ ?_
 ·exact ⟨za4.call ((zxl ax hx k (⟨s_,(zA 10)⟩:Pat) rFree e4 ).call _),trivial⟩
 clear hh h;intro h hh;cases H;exact rt hh
def zmj (k:Nat) (l:List Pat) (most:Int):Option Bool:=((zfx k l).bind fun rRightAll=>(if rRightAll=true then (if (l.length:Int)≤most then ((ziz k l).bind fun rFixed=>some (decide (rFixed≤12))) else some false) else some false))
set_option maxHeartbeats 8000000 in
theorem z0n (ax:Axs) (hx:zcs ax) (k:Nat) (l:List Pat) (most:Int) (v:Bool) (H:zmj k l most=some v):Pure Tryz.prog (EE ax) [] 116 [lPat l,.int .i64 most] (.bool v):=by
 rw [zmj] at H;refine en [.tmp 4] 20 [0,1] (hx.no _ (by decide)) (fn116 ax) ?_;intro h hh;repeat apply TW.seq
 refine rk [0,1] [] hh ?_;clear hh h;intro h hh;obtain ⟨rRightAll,e1,H⟩:=zaf H;repeat apply TW.seq
 refine rkc [0,1,5] [] [(.bool rRightAll,stL [])] hh ?_ ?_
 ·exact ⟨za4.call ((zpa ax hx k l rRightAll e1 ).call _),trivial⟩
 clear hh h;intro h hh;rcases isb H with ⟨c2,H⟩|⟨c2,H⟩;rotate_left
 ·skip;repeat apply TW.seq
  refine rk [4] [] (f2 hh c2) ?_;clear hh h;intro h hh;cases H;exact rt hh
 rcases isp H with ⟨c3,H⟩|⟨c3,H⟩;rotate_left
 ·skip;repeat apply TW.seq
  refine rk [4] [] (f3 hh c2 (f2 (decide_eq_false c3) (znp ax))) ?_;clear hh h;intro h hh;cases H;exact rt hh
 obtain ⟨rFixed,e4,H⟩:=zaf H;repeat apply TW.seq
 refine rkc [4] [] [(.int .i64 rFixed,stL [])] (f3 hh c2 (f2 (decide_eq_true c3) (znp ax))) ?_ ?_
 ·exact ⟨za4.call (Pure.clr (zvr ax hx k l rFixed e4 ) (by first|rfl|simp only [c2])),trivial⟩
 clear hh h;intro h hh;cases H;exact rt hh
def ziv (k:Nat) (t:List Rule):Option Bool:=((zhp k t (t.length:Int)).bind fun rbefore=>((zmj k rbefore 12).bind fun rFew=>some rFew))
set_option maxHeartbeats 8000000 in
theorem zvn (ax:Axs) (hx:zcs ax) (k:Nat) (t:List Rule) (v:Bool) (H:ziv k t=some v):Pure Tryz.prog (EE ax) [] 66 [zbd t] (.bool v):=by
 rw [ziv] at H;refine en [.tmp 2] 8 [0] (hx.no _ (by decide)) (fn66 ax) ?_;intro h hh;repeat apply TW.seq
 refine rk [0] [] hh ?_;clear hh h;intro h hh;obtain ⟨rbefore,e1,H⟩:=zaf H;obtain ⟨rFew,e2,H⟩:=zaf H;repeat apply TW.seq
 refine rkc [2] [] [(lPat rbefore,stL []),(.bool rFew,stL [])] hh ?_ ?_
 ·exact ⟨za4.call ((zsh ax hx k t (t.length:Int) rbefore e1 ).call _),za4.call ((z0n ax hx k rbefore 12 rFew e2 ).call _),trivial⟩
 clear hh h;intro h hh;cases H;exact rt hh
end
section
open Go Go.RowKit
theorem z3i {P:Nat→Prop}:∀ n,(∃ i,i<n∧P i)→∃ i,i<n∧P i∧∀ j,j<i→¬ P j
  |0,⟨i,hi,_⟩=>by omega
  |n+1,⟨i,hi,hp⟩=>by
    by_cases h:∃ i,i<n∧P i
    · obtain ⟨j,h1,h2,h3⟩:=z3i n h;exact ⟨j,by omega,h2,h3⟩
    · exact ⟨i,hi,hp,fun j hj hpj=>h ⟨j,by omega,hpj⟩⟩
theorem z48 {a b:Nat} (ha:a<65536) (hb:b<65536) (h:a≠b):∃ t,t<16∧(∀ s,t<s→a.testBit s=b.testBit s)∧a.testBit t≠b.testBit t:=by
  have hex:∃ u,u<16∧a.testBit (15 - u)≠b.testBit (15 - u):=by
    refine Classical.byContradiction fun hn=>h (zpe ha hb fun t ht=>?_);refine Classical.byContradiction fun hd=>hn ⟨15 - t,by omega,?_⟩;rw [show 15 - (15 - t)=t by omega];exact hd
  obtain ⟨u,h1,h2,h3⟩:=z3i 16 hex;refine ⟨15 - u,by omega,fun s hs=>?_,h2⟩;by_cases hs16:s<16
  · have:=h3 (15 - s) (by omega);rw [show 15 - (15 - s)=s by omega] at this;exact Classical.byContradiction this
  · have e:65536≤2 ^ s:=Nat.pow_le_pow_right (n:=2) (by decide) (show 16≤s by omega);rw [Nat.testBit_lt_two_pow (Nat.lt_of_lt_of_le ha e),Nat.testBit_lt_two_pow (Nat.lt_of_lt_of_le hb e)]
theorem z5v {a b t:Nat} (ha:a.testBit t=false) (hb:b.testBit t=true) (hs:∀ s,t<s→a.testBit s=b.testBit s):a<b:=by
  have e:a / 2 ^ (t+1)=b / 2 ^ (t+1):=by
    apply Nat.eq_of_testBit_eq;intro i;rw [Nat.testBit_div_two_pow,Nat.testBit_div_two_pow];exact hs _ (by omega)
  rw [Nat.pow_succ,← Nat.div_div_eq_div_mul,← Nat.div_div_eq_div_mul] at e;rw [Nat.testBit_eq_decide_div_mod_eq] at ha hb;have ha':=of_decide_eq_false ha;have hb':=of_decide_eq_true hb;apply Nat.lt_of_not_le;intro h;have:=Nat.div_le_div_right (c:=2 ^ t) h;omega
theorem zyp {a b:Ar 10} (ha:zac a=true) (hb:zac b=true) {j:Nat} (hj:j<10) (he:∀ i,i<j→hw a i=hw b i) (hl:hw a j<hw b j):ltH a b:=by
  obtain ⟨t,h1,h2,h3⟩:=z48 (zb1 ha hj).2 (zb1 hb hj).2 (by omega)
  have hat:(hw a j).testBit t=false∧(hw b j).testBit t=true:=by
    cases e1:(hw a j).testBit t with
    |false =>
      cases e2:(hw b j).testBit t with
      |false=>rw [e1,e2] at h3;exact absurd rfl h3
      |true=>exact ⟨rfl,rfl⟩
    |true =>
      cases e2:(hw b j).testBit t with
      |true=>rw [e1,e2] at h3;exact absurd rfl h3
      |false =>
        have:=z5v e2 e1 fun s hs=>(h2 s hs).symm;omega
  refine ⟨16*j+(15 - t),by omega,fun s hs=>?_,?_,?_⟩
  · unfold hbit;by_cases c:s / 16=j
    · rw [c];exact h2 _ (by omega)
    · rw [he (s / 16) (by omega)]
  · rw [zin a hj h1];exact hat.1
  · rw [zin b hj h1];exact hat.2
theorem zt4 {a:Ar 10}:¬ ltH a a:=by
  rintro ⟨i,_,_,h1,h2⟩;rw [h1] at h2;cases h2
theorem zyr {a b:Ar 10} (h:ltH a b):¬ ltH b a:=by
  obtain ⟨i,h1,h2,h3,h4⟩:=h;rintro ⟨j,k1,k2,k3,k4⟩;rcases Nat.lt_trichotomy i j with c|c|c
  · have:=k2 i c;rw [h3,h4] at this;cases this
  · subst c;rw [h3] at k4;cases k4
  · have:=h2 j c;rw [k3,k4] at this;cases this
theorem zyq {a b c:Ar 10} (h:ltH a b) (k:ltH b c):ltH a c:=by
  obtain ⟨i,h1,h2,h3,h4⟩:=h;obtain ⟨j,k1,k2,k3,k4⟩:=k;rcases Nat.lt_trichotomy i j with e|e|e
  · exact ⟨i,h1,fun s hs=>by rw [h2 s hs,k2 s (by omega)],h3,by rw [← k2 i e];exact h4⟩
  · subst e;rw [h4] at k3;cases k3
  · exact ⟨j,k1,fun s hs=>by rw [h2 s (by omega),k2 s hs],by rw [h2 j e];exact k3,k4⟩
def Cmp (a b:Ar 10) (c:Int):Prop:=(c=-1∧ltH a b)∨(c=1∧ltH b a)∨(c=0∧a=b)
theorem Cmp.neg {a b:Ar 10} {c:Int} (h:Cmp a b c):c<0↔ltH a b:=by
  rcases h with ⟨rfl,h⟩|⟨rfl,h⟩|⟨rfl,rfl⟩
  · exact ⟨fun _=>h,fun _=>by decide⟩
  · exact ⟨fun q=>absurd q (by decide),fun q=>absurd q (zyr h)⟩
  · exact ⟨fun q=>absurd q (by decide),fun q=>absurd q zt4⟩
theorem Cmp.pos {a b:Ar 10} {c:Int} (h:Cmp a b c):0<c↔ltH b a:=by
  rcases h with ⟨rfl,h⟩|⟨rfl,h⟩|⟨rfl,rfl⟩
  · exact ⟨fun q=>absurd q (by decide),fun q=>absurd q (zyr h)⟩
  · exact ⟨fun _=>h,fun _=>by decide⟩
  · exact ⟨fun q=>absurd q (by decide),fun q=>absurd q zt4⟩
end
section
open Go Go.RowKit
structure Meet (p q r:Pat):Prop where
  mask:zac r.mask=true
  bits:zac r.bits=true
  hm:∀ j,j<160→hbit r.mask j=(hbit p.mask j || hbit q.mask j)
  hb:∀ j,j<160→hbit r.bits j=if hbit q.mask j=true then hbit q.bits j else hbit p.bits j
theorem zz1 {a:Bool}:((a.toNat:Int)=0)↔a=false:=by cases a<;>decide
structure AndI (p q:Pat) (i:Nat) (x y:Ar 10):Prop where
  rx:zac x=true
  ry:zac y=true
  hx:∀ j,j<160→hbit x j=(hbit p.mask j || (decide (j<i) && hbit q.mask j))
  hy:∀ j,j<160→hbit y j=if (decide (j<i) && hbit q.mask j)=true then hbit q.bits j else hbit p.bits j
  ok:∀ j,j<i→hbit p.mask j=true→hbit q.mask j=true→hbit p.bits j=hbit q.bits j
theorem yhi {k:Nat} {p q:Pat} (hp:zag p=true) (hq:zag q=true) (hk:160<k):∃ r,zmk k p q=some r∧((zcv p q=false∧r.2=false)∨(zcv p q=true∧r.2=true∧Meet p q r.1)):=by
  obtain ⟨pm,pb,pw⟩:=zam.1 hp;obtain ⟨qm,qb,qw⟩:=zam.1 hq
  have key:∀ m i x y,i≤160→160 - i<m→AndI p q i x y→∃ o,zeo k q m (i:Int) x y=some o∧((∃ r,o=.inl r∧r.2=false∧zcv p q=false)∨∃ x y,o=.inr (x,y)∧AndI p q 160 x y):=by
    intro m
    induction m with
    |zero=>intro i x y h1 h2;omega
    |succ m ih =>
      intro i x y h1 h2 hI;rw [zeo];by_cases c:i<160
      · rw [if_pos (yho c),zie qm c (by omega),Option.bind_some,zce i (by omega)];by_cases c1:hbit q.mask i=false
        · rw [if_pos (zz1.2 c1)]
          have hd:∀ j,(decide (j<i+1) && hbit q.mask j)=(decide (j<i) && hbit q.mask j):=fun j=>by
            by_cases e:j=i
            · subst e;rw [c1];simp
            · rw [show decide (j<i+1)=decide (j<i) from decide_eq_decide.2 (by omega)]
          refine ih (i+1) x y (by omega) (by omega) ⟨hI.rx,hI.ry,fun j hj=>by rw [hd,hI.hx j hj],fun j hj=>by rw [hd,hI.hy j hj],fun j hj h3 h4=>?_⟩;by_cases e:j=i
          · rw [e,c1] at h4;cases h4
          · exact hI.ok j (by omega) h3 h4
        · have c1':hbit q.mask i=true:=by simpa using c1
          have xi:hbit x i=hbit p.mask i:=by rw [hI.hx i c];simp
          have yi:hbit y i=hbit p.bits i:=by rw [hI.hy i c,if_neg (by simp)]
          rw [if_neg (fun h=>c1 (zz1.1 h)),zie hI.rx c (by omega),Option.bind_some,zie hI.ry c (by omega),Option.bind_some,zie qb c (by omega),Option.bind_some,xi,yi];by_cases c2:hbit p.mask i=true∧hbit p.bits i≠hbit q.bits i
          · rw [if_pos (znk.2 c2.1),Option.bind_some,if_pos (decide_eq_true (z4z.2 c2.2))];refine ⟨_,rfl,.inl ⟨_,rfl,rfl,?_⟩⟩
            cases ho:zcv p q with
            |false=>rfl
            |true=>exact absurd (zhx.1 ho i c c2.1 c1') c2.2
          · have e2:(if ((hbit p.mask i).toNat:Int)=1 then some (decide (((hbit p.bits i).toNat:Int)≠((hbit q.bits i).toNat:Int))) else some false)=some false:=by
              by_cases c3:hbit p.mask i=true
              · have:hbit p.bits i=hbit q.bits i:=Classical.byContradiction fun h=>c2 ⟨c3,h⟩;rw [if_pos (znk.2 c3),decide_eq_false (fun h=>(z4z.1 h) this)]
              · rw [if_neg (fun h=>c3 (znk.1 h))]
            rw [e2,Option.bind_some,if_neg (by simp)];obtain ⟨x2,s1,s2,s3⟩:=zvu (k:=k) (b:=true) hI.rx c (by omega);obtain ⟨y2,t1,t2,t3⟩:=zvu (k:=k) (b:=hbit q.bits i) hI.ry c (by omega);have s1':zh4 k x (i:Int) 1=some x2:=s1;rw [s1',Option.bind_some,Option.bind_some,t1,Option.bind_some];refine ih (i+1) x2 y2 (by omega) (by omega) ⟨s2,t2,fun j hj=>?_,fun j hj=>?_,fun j hj h3 h4=>?_⟩
            · rw [s3 j hj];by_cases e:j=i
              · subst e;rw [if_pos rfl,c1'];simp
              · rw [if_neg e,hI.hx j hj,show decide (j<i+1)=decide (j<i) from decide_eq_decide.2 (by omega)]
            · rw [t3 j hj];by_cases e:j=i
              · subst e;rw [if_pos rfl,c1',if_pos (by simp)]
              · rw [if_neg e,hI.hy j hj,show decide (j<i+1)=decide (j<i) from decide_eq_decide.2 (by omega)]
            · by_cases e:j=i
              · subst e;exact Classical.byContradiction fun h=>c2 ⟨h3,h⟩
              · exact hI.ok j (by omega) h3 h4
      · obtain rfl:i=160:=by omega
        rw [if_neg (by decide)];exact ⟨_,rfl,.inr ⟨x,y,rfl,hI⟩⟩
  obtain ⟨o,e,h⟩:=key k 0 p.mask p.bits (by omega) (by omega) ⟨pm,pb,fun j hj=>by simp,fun j hj=>by simp,fun j hj=>by omega⟩;unfold zmk;rw [show ((0:Nat):Int)=0 from rfl] at e;rw [e,Option.bind_some];rcases h with ⟨r,rfl,h1,h2⟩|⟨x,y,rfl,hI⟩
  · exact ⟨r,rfl,.inl ⟨h2,h1⟩⟩
  · refine ⟨_,rfl,.inr ⟨zhx.2 fun i hi=>hI.ok i hi,rfl,hI.rx,hI.ry,fun j hj=>?_,fun j hj=>?_⟩⟩
    · rw [hI.hx j hj];simp [hj]
    · rw [hI.hy j hj];simp [hj]
theorem z0x {k:Nat} {p q:Pat} (hp:zag p=true) (hq:zag q=true) (hk:160<k):zgv k p q=some (zcv p q):=by
  obtain ⟨r,e,h⟩:=yhi hp hq hk;unfold zgv;rw [e,Option.bind_some];rcases h with ⟨h1,h2⟩|⟨h1,h2,_⟩<;>rw [h1,h2]
end
section
open Go Go.RowKit
def yk0 (q:Pat) (i:Nat) (h:Ar 10):Prop:=∀ j,j<i→hbit q.mask j=true→hbit h j=hbit q.bits j
def Part (p q:Pat) (i:Nat) (r:Pat):Prop:=∀ h,za5 r h=true↔za5 p h=true∧yk0 q i h∧hbit h i≠hbit q.bits i
structure Parts (p q:Pat) (i:Nat) (l:List Pat):Prop where
  len:l.length≤i
  right:∀ r,r∈l→zag r=true
  mask:∀ r,r∈l→∀ j,j<160→hbit r.mask j=true→hbit p.mask j=true∨hbit q.mask j=true
  part:∀ r,r∈l→∃ j,j<i∧hbit q.mask j=true∧Part p q j r
  all:∀ h,za5 p h=true→¬ yk0 q i h→∃ r,r∈l∧za5 r h=true
  apart:l.Pairwise fun r s=>∀ h,¬ (za5 r h=true∧za5 s h=true)
structure Diff (p q:Pat) (l:List Pat):Prop where
  len:l.length≤160
  right:∀ r,r∈l→zag r=true
  mask:∀ r,r∈l→∀ j,j<160→hbit r.mask j=true→hbit p.mask j=true∨hbit q.mask j=true
  heads:∀ h,(∃ r,r∈l∧za5 r h=true)↔za5 p h=true∧za5 q h=false
  apart:l.Pairwise fun r s=>∀ h,¬ (za5 r h=true∧za5 s h=true)
end
section
open Go Go.RowKit
theorem yb2 {α:Type} (e:α) (f:Nat→α):rngF [] e f=e:=rfl
theorem z79 {α:Type} (x:Nat) (r:List Nat) (e:α) (f:Nat→α):rngF (x :: r) e f=f x:=rfl
theorem z1f {α:Type} (g:α→Bool) {l:List α} {i:Nat} (h:i<l.length):(l.take (i+1)).filter g=(l.take i).filter g++(if g l[i]=true then [l[i]] else []):=by
  rw [List.take_add_one,List.getElem?_eq_getElem h,Option.toList_some,List.filter_append];cases hg:g l[i]<;>simp [hg]
def ykv (p:Pat) (l:List Pat) (o:(Ar 10×Bool) ⊕ (Int×List Pat×Nat)):Prop :=
  (o=.inl (zA 10,false)∧∃ q,q∈l∧zcv p q=true∧∀ i,i<160→zge q p i=false) ∨
  ∃ a:Nat,o=.inr ((a:Int),l.filter (zcv p),(l.filter (zcv p)).length)∧(∀ q,q∈l.filter (zcv p)→∀ i,i<a→zge q p i=false)∧(l.filter (zcv p)≠[]→a<160∧∃ q,q∈l.filter (zcv p)∧zge q p a=true)
theorem z7s {k:Nat} {p:Pat} {l:List Pat} (hp:zag p=true) (hl:∀ q,q∈l→zag q=true) (hlen:l.length≤1000) (hk:big≤k):∃ o,zan k p l k 160 0 [] 0=some o∧ykv p l o:=by
  have key : ∀ m i (a : Nat), i ≤ l.length → l.length - i < m → a ≤ 160 → (∀ q, q ∈ (l.take i).filter (zcv p) → ∀ j, j < a → zge q p j = false) → ((l.take i).filter (zcv p) = [] → a = 160) → ((l.take i).filter (zcv p) ≠ [] → a < 160 ∧ ∃ q, q ∈ (l.take i).filter (zcv p) ∧ zge q p a = true) →
      ∃ o,zan k p l m (a:Int) (i:Int) ((l.take i).filter (zcv p)) ((l.take i).filter (zcv p)).length=some o∧ykv p l o:=by
    intro m
    induction m with
    |zero=>intro i a h1 h2;omega
    |succ m ih =>
      intro i a h1 h2 ha hI hE hN;rw [zan];by_cases c:i<l.length
      · have hq:=hl _ (List.getElem_mem c);have hn:((l.take i).filter (zcv p)).length≤1000:=Nat.le_trans (List.length_filter_le _ _) (by rw [List.length_take];omega);have hf:=z1f (zcv p) c;rw [if_pos (zav c),if_pos ⟨by omega,zav c⟩,zf4 c,zo7 hp hq (by simp only [big] at hk;omega),Option.bind_some,zce i (by omega)]
        cases ho:zcv p l[i] with
        |false =>
          rw [if_neg (by simp)];rw [ho,if_neg (by simp),List.append_nil] at hf;have:=ih (i+1) a (by omega) (by omega) ha;rw [hf] at this;exact this hI hE hN
        |true =>
          rw [ho,if_pos rfl] at hf;rw [if_pos rfl,if_pos (by omega),if_pos (z86 (zam.1 hq).1),if_pos (z86 (zam.1 hp).1)];rcases z5r (zam.1 hq).1 (zam.1 hp).1 with ⟨e1,e2⟩|⟨x,r,e1,e2,e3,e4⟩
          · rw [e1,yb2,if_pos (by decide)];exact ⟨_,rfl,.inl ⟨rfl,_,List.getElem_mem c,ho,e2⟩⟩
          · rw [e1,z79,if_neg (by omega),show min (a:Int) (x:Int)=((min a x:Nat):Int) by omega];have:=ih (i+1) (min a x) (by omega) (by omega) (by omega);rw [hf,List.length_append,List.length_singleton] at this;refine this (fun q hq j hj=>?_) (fun h=>by simp at h) (fun _=>⟨by omega,?_⟩)
            · rcases List.mem_append.1 hq with h|h
              · exact hI q h j (by omega)
              · cases List.mem_singleton.1 h;exact e4 j (by omega)
            · by_cases cx:x≤a
              · exact ⟨_,List.mem_append.2 (.inr (List.mem_singleton.2 rfl)),by rw [Nat.min_eq_right cx];exact e3⟩
              · rw [Nat.min_eq_left (by omega)];have hne:(l.take i).filter (zcv p)≠[]:=fun h=>by have:=hE h;omega
                obtain ⟨_,q,h3,h4⟩:=hN hne;exact ⟨q,List.mem_append.2 (.inl h3),h4⟩
      · obtain rfl:i=l.length:=by omega
        rw [if_neg (by omega)];rw [List.take_length] at hI hN ⊢;exact ⟨_,rfl,.inr ⟨a,rfl,hI,hN⟩⟩
  exact key k 0 160 (Nat.zero_le _) (by simp only [big] at hk;omega) (Nat.le_refl _) (fun q hq=>by simp at hq) (fun _=>rfl) (fun h=>absurd rfl h)
theorem z7r {k:Nat} (hk:big≤k):∀ (m c:Nat) (p:Pat) (l:List Pat),c≤160→161 - c≤m→zag p=true→(∀ q,q∈l→zag q=true)→l.length≤1000→(∀ q,q∈l→∀ i,i<c→zge q p i=false)→∃ r,zbh k m p l=some r∧Res p l r:=by
  intro m
  induction m with
  |zero=>intro c p l h1 h2;omega
  |succ m ih =>
    intro c p l h1 h2 hp hl hlen hc;rw [zbh];obtain ⟨o,e,hF⟩:=z7s hp hl hlen hk;rw [e,Option.bind_some];rcases hF with ⟨rfl,q,hq,ho,hn⟩|⟨a,rfl,hI,hN⟩
    · refine ⟨_,rfl,.inr ⟨rfl,fun h hO=>?_⟩⟩
      have:za5 q h=true:=za1.2 fun i hi hm=>by
        have hop:=hn i hi;unfold zge at hop;rw [hm] at hop;have hpm:hbit p.mask i=true:=by simpa using hop
        rw [← za1.1 hO.into i hi hpm];exact (zhx.1 ho i hi hpm hm).symm
      rw [hO.no q hq] at this;cases this
    · rw [Sum.elim_inr];have hnl:(l.filter (zcv p)).length≤1000:=Nat.le_trans (List.length_filter_le _ _) hlen;have hnr:∀ q,q∈l.filter (zcv p)→zag q=true:=fun q hq=>hl q (List.mem_filter.1 hq).1;by_cases hz:l.filter (zcv p)=[]
      · rw [if_pos (show (((l.filter (zcv p)).length:Nat):Int)=0 by rw [hz];rfl)];unfold zjl;refine ⟨_,rfl,.inl ⟨rfl,z5x hp fun q hq=>?_⟩⟩
        cases ho:zcv p q with
        |false=>rfl
        |true=>have:q∈l.filter (zcv p):=List.mem_filter.2 ⟨hq,ho⟩;rw [hz] at this;cases this
      · obtain ⟨a160,q0,hq0,hop⟩:=hN hz;have hpa:hbit p.mask a=false:=by unfold zge at hop;simp at hop;exact hop.2
        have hca:c≤a:=by
          apply Nat.le_of_not_lt;intro hlt;have:=hc q0 (List.mem_filter.1 hq0).1 a hlt;rw [hop] at this;cases this
        have hlen0:¬ ((l.filter (zcv p)).length:Int)=0:=by
          intro h;exact hz (List.eq_nil_of_length_eq_zero (by omega))
        rw [if_neg hlen0];obtain ⟨p0,f0,F0⟩:=z41 (k:=k) (b:=false) hp a160;obtain ⟨p1,f1,F1⟩:=z41 (k:=k) (b:=true) hp a160;have f0':zgw k p (a:Int) 0=some p0:=f0;have f1':zgw k p (a:Int) 1=some p1:=f1
        have next:∀ {b:Bool} {r:Pat},zu6 p a b r→∀ q,q∈l.filter (zcv p)→∀ i,i<a+1→zge q r i=false:=fun {b r} hF q hq i hi=>by
          unfold zge;rw [hF.hm i (by omega)];by_cases e:i=a
          · simp [e]
          · have:=hI q hq i (by omega);unfold zge at this;rw [decide_eq_false e,Bool.false_or];exact this
        obtain ⟨r0,e0,R0⟩:=ih (a+1) p0 _ (by omega) (by omega) (zzb hp F0) hnr hnl (next F0);rw [f0',Option.bind_some,if_pos rfl,e0,Option.bind_some]
        cases hb:r0.2 with
        |true =>
          rw [if_pos rfl];refine ⟨_,rfl,?_⟩;have:=Res.join (r1:=r0) a160 hpa F0 F1 hI R0 (fun h=>by rw [hb] at h;cases h);rw [hb,if_pos rfl] at this;rcases this with ⟨x,y⟩|⟨x,y⟩
          · exact .inl ⟨x,⟨Out.near.2 y.out,fun h' ho'=>y.least h' (Out.near.1 ho')⟩⟩
          · exact .inr ⟨x,fun h ho'=>y h (Out.near.1 ho')⟩
        |false =>
          obtain ⟨r1,e1,R1⟩:=ih (a+1) p1 _ (by omega) (by omega) (zzb hp F1) hnr hnl (next F1);rw [if_neg (by simp),f1',Option.bind_some,e1,Option.bind_some];refine ⟨_,rfl,?_⟩;have:=Res.join a160 hpa F0 F1 hI R0 (fun _=>R1);rw [hb,if_neg (by simp)] at this;rcases this with ⟨x,y⟩|⟨x,y⟩
          · exact .inl ⟨x,⟨Out.near.2 y.out,fun h' ho'=>y.least h' (Out.near.1 ho')⟩⟩
          · exact .inr ⟨x,fun h ho'=>y h (Out.near.1 ho')⟩
theorem zz3 {k:Nat} (hk:big≤k) {p:Pat} {l:List Pat} (hp:zag p=true) (hl:∀ q,q∈l→zag q=true) (hlen:l.length≤1000):∃ r,zc3 k p l=some r∧Res p l r:=by
  obtain ⟨r,e,R⟩:=z7r hk k 0 p l (by omega) (by simp only [big] at hk;omega) hp hl hlen (fun q hq i hi=>by omega);refine ⟨r,?_,R⟩;unfold zc3 zgj;rw [e];rfl
end
section
open Go Go.RowKit
theorem zn4 {α:Type} (f:α→Bool):∀ l:List α,(l.filter f).length+(l.filter fun x=>!f x).length=l.length
  |[]=>rfl
  |x :: l=>by
    have:=zn4 f l;cases h:f x<;>simp [h]<;>omega
theorem zzo {α:Type} (b:α→Nat→Bool):∀ (F:List Nat) (L:List α),L.Pairwise (fun r s=>∃ j,j∈F∧b r j≠b s j)→L.length≤2 ^ F.length
  |[],[],_=>by simp
  |[],[x],_=>by simp
  |[],x :: y :: l,h=>by
    obtain ⟨j,hj,_⟩:=(List.pairwise_cons.1 h).1 y (.head _)
    cases hj
  |f :: F,L,h=>by
    have key:∀ g:α→Bool,(∀ x y,g x=true→g y=true→b x f=b y f)→(L.filter g).length≤2 ^ F.length:=fun g hg=>by
      refine zzo b F _ ?_;rw [List.pairwise_filter];refine h.imp ?_;intro x y hxy gx gy;obtain ⟨j,hj,hd⟩:=hxy;rcases List.mem_cons.1 hj with e|e
      · subst e;exact absurd (hg x y gx gy) hd
      · exact ⟨j,e,hd⟩
    have h1:=key (fun x=>b x f) (fun x y hx hy=>by rw [hx,hy])
    have h2:=key (fun x=>!b x f) (fun x y hx hy=>by
      have hx':b x f=false:=by simpa using hx
      have hy':b y f=false:=by simpa using hy
      rw [hx',hy'])
    have:=zn4 (fun x=>b x f) L;rw [List.length_cons,Nat.pow_succ];omega
structure ykz (F:List Nat) (L:List Pat):Prop where
  right:∀ r,r∈L→zag r=true
  mask:∀ r,r∈L→∀ j,j<160→hbit r.mask j=true→j∈F
  apart:L.Pairwise fun r s=>∀ h,¬ (za5 r h=true∧za5 s h=true)
theorem ykz.few {F:List Nat} {L:List Pat} (h:ykz F L) (hF:F.length≤12):L.length≤4096:=by
  refine Nat.le_trans (zzo (fun r j=>hbit r.bits j) F L ?_) (Nat.pow_le_pow_right (n:=2) (by decide) hF);refine h.apart.imp_of_mem ?_;intro r s hr hs hd;refine Classical.byContradiction fun hn=>hd r.bits ⟨za1.2 fun i _ _=>rfl,za1.2 fun i hi hm=>?_⟩;refine Classical.byContradiction fun hne=>hn ⟨i,h.mask s hs i hi hm,fun e=>hne e.symm⟩
def Heads (L:List Pat) (h:Ar 10):Prop:=∃ r,r∈L∧za5 r h=true
end
section
open Go Go.RowKit
set_option maxRecDepth 100000
def zax (k:Nat) (t:List Rule) (k_:Int):Nat→Int→(List Pat)→Option (List Pat)
 |0,_,_=>none
 |m+1,i,l=>(if i<(k_.toNat:Int) then (if (0:Int)≤i∧i<(t.length:Int) then (if (0:Int)≤i∧i<(k_.toNat:Int) then (if i.toNat<l.length then zax k t k_ m (IntKind.i64.wrap (i+1)) (l.set i.toNat ((gx t i).mat)) else none) else none) else none) else some l)
def zb2 (k:Nat) (t:List Rule) (k_:Int):Option (List Pat):=(if (0:Int)≤k_∧k_.toNat*161≤1000000000 then ((zax k t k_ k 0 (List.replicate k_.toNat (⟨(zA 10),(zA 10)⟩:Pat)):Option (List Pat)).bind fun s_=>(if s_.length=k_.toNat then some s_ else none)) else none)
set_option maxHeartbeats 8000000 in
theorem zgb (ax:Axs) (hx:zcs ax) (k:Nat) (t:List Rule) (k_:Int) (v:List Pat) (H:zb2 k t k_=some v):Pure Tryz.prog (EE ax) [] 68 [zbd t,.int .i64 k_] (lPat v):=by
 rw [zb2] at H;refine en [.tmp 4] 24 [0,1] (hx.no _ (by decide)) (fn68 ax) ?_;intro h hh;repeat apply TW.seq
 refine rk [0,1] [] hh ?_;clear hh h;intro h hh;obtain ⟨g1,H⟩:=isg H;repeat apply TW.seq
 refine rk [0,5] [] (f3 hh (z2u (k_.toNat)) (f2 ((show (vecC ePat (List.replicate k_.toNat (⟨(zA 10),(zA 10)⟩:Pat))).length=k_.toNat*20 from by rw [zey (fun x=>zcu x),List.length_replicate])) (z58 ax))) ?_;clear hh h;intro h hh;repeat apply TW.seq
 refine rk [0,5,10,11] [] (f2 hh (znp ax)) ?_;clear hh h;intro h hh;obtain ⟨s_,H1,H⟩:=zaf H;repeat apply TW.seq
 refine cu [5] 1 (fun h bs=>(h 5=.arr 0 20 0 k_.toNat k_.toNat (k_.toNat*20))∧bs=[.cells true (k_.toNat*20) (vecC ePat s_)]) ?_ ?_
 ·skip;repeat apply TW.seq
  apply TW.block;repeat apply TW.seq
  refine TW.loopT [0,5,10,11] (fun m h bs=>∃ (i:Int) (l:List Pat),zax k t k_ m i l=some s_∧(h 0=zbd t∧h 5=.arr 0 20 0 k_.toNat k_.toNat (k_.toNat*20)∧h 10=.int .i64 (k_.toNat:Int)∧h 11=.int .i64 i)∧bs=[.cells true (k_.toNat*20) (vecC ePat l)]) ?_ k _ _ ?_;rotate_left
  ·exact ⟨0,(List.replicate k_.toNat (⟨(zA 10),(zA 10)⟩:Pat)),H1,kq hh,rfl⟩
  clear hh h H1;rintro m h bs ⟨i,l,H1,hh,rfl⟩;rcases m with _|m
  ·rw [zax] at H1;cases H1
  rw [zax] at H1;repeat apply TW.seq
  refine rk [0,5,10,11,12] [] hh ?_;clear hh h;intro h hh;rcases isp H1 with ⟨c2,H1⟩|⟨c2,H1⟩;rotate_left
  ·skip;repeat apply TW.seq
   refine cf (f2 hh (decide_eq_false c2)) ?_;refine xk ?_;cases H1;exact ce hh ⟨kq hh,rfl⟩
  repeat apply TW.seq
  refine ct (f2 hh (decide_eq_true c2)) ?_;repeat apply TW.seq
  refine sk ?_;repeat apply TW.seq
  apply TW.block;repeat apply TW.seq
  refine rk [0,5,6,10,11] [] hh ?_;clear hh h;intro h hh;obtain ⟨g3,H1⟩:=isg H1;obtain ⟨g4,H1⟩:=isg H1;obtain ⟨g5,H1⟩:=isg H1;repeat apply TW.seq
  refine rk [0,5,10,11] [] (f3 hh (zar g3) (f3 (show spl (vecC ePat l) (i.toNat*20) ((((gx t i).mat).mask).l.map (T.int .i64)++((((gx t i).mat).bits).l.map (T.int .i64)))=_ from zmc ePat 20 ((gx t i).mat) (fun x=>zcu x) g5) (znp ax) (z5a ax))) ?_;clear hh h;intro h hh;repeat apply TW.seq
  refine rk [0,5,10,11] [] hh ?_;clear hh h;intro h hh;exact rd m hh ⟨(IntKind.i64.wrap (i+1)),(l.set i.toNat ((gx t i).mat)),H1,kq hh,rfl⟩
 clear hh h;rintro h bs ⟨hh,rfl⟩;repeat apply TW.seq
 refine rk [4] [] hh ?_;clear hh h;intro h hh;obtain ⟨g6,H⟩:=isg H;refine TW.freeze 4 (b:=0) (e:=20) (off:=0) (len:=k_.toNat) (cap:=k_.toNat) (M:=(k_.toNat*20)) (s_.map ePat) (kq hh) (by rfl) (by omega) (by omega) (by rw [List.drop_zero];exact zir (fun x=>zcu x) g6) (fun t ht=>by obtain ⟨x,_,rfl⟩:=List.mem_map.1 ht;first|rfl|exact zl2 _|exact zcu _|exact zjw _|exact za6 _ | (rw [List.length_map];rfl)) (by rw [List.length_map];exact g6) (by omega) ?_;rw [ziu _ _ _ (by simp only [lzA]<;>omega)];simp only [scA];refine gk [4] hh ?_;clear hh h;intro h hh;cases H;exact rt hh
def zsg (k:Nat) (t:List Rule) (k_:Int):Option (Ar 10×Bool):=(((if k_<0 then some true else some (decide ((t.length:Int)≤k_))):Option Bool).bind fun s_=>(if s_=true then some ((zA 10),false) else (if (0:Int)≤k_∧k_<(t.length:Int) then ((zb2 k t k_).bind fun rbefore=>((zc3 k ((gx t k_).mat) rbefore).bind fun rOutside=>some (rOutside.1,rOutside.2))) else none)))
end
section
open Go Go.RowKit
def bef (t:List Rule) (i:Nat):List Pat:=(t.take i).map fun r=>r.mat
theorem zl5 {t:List Rule} {i:Nat} (hi:i≤t.length):(bef t i).length=i:=by unfold bef;rw [List.length_map,List.length_take];omega
theorem zw4 {t:List Rule} {i:Nat} (hi:i<t.length):bef t (i+1)=bef t i++[t[i].mat]:=by
  unfold bef;rw [List.take_add_one,List.getElem?_eq_getElem hi,Option.toList_some,List.map_append];rfl
theorem zxe {k:Nat} (t:List Rule) (n:Nat) (hn:n≤t.length) (ht:t.length≤5000) (hk:big≤k):zb2 k t (n:Int)=some (bef t n):=by
  have key:∀ m j,j≤n→n - j<m→zax k t (n:Int) m (j:Int) (bef t j++List.replicate (n - j) (⟨zA 10,zA 10⟩:Pat))=some (bef t n):=by
    intro m
    induction m with
    |zero=>intro j h1 h2;omega
    |succ m ih =>
      intro j h1 h2;rw [zax];have hl:=zl5 (t:=t) (i:=j) (by omega);by_cases c:j<n
      · have ct:j<t.length:=by omega
        rw [if_pos (by omega),if_pos ⟨by omega,by omega⟩,if_pos ⟨by omega,by omega⟩,if_pos (by rw [List.length_append,List.length_replicate,hl];omega),zf4 ct,zce j (by omega)];have:=ih (j+1) (by omega) (by omega);rw [zw4 ct] at this;rw [show ((j:Int)).toNat=j by omega,List.set_append_right _ _ (by omega),hl,Nat.sub_self,show n - j=(n - (j+1))+1 by omega,List.replicate_succ,List.set_cons_zero];rw [List.append_assoc] at this;exact this
      · obtain rfl:j=n:=by omega
        rw [if_neg (by omega),Nat.sub_self,List.replicate_zero,List.append_nil]
  have:=key k 0 (Nat.zero_le _) (by simp only [big] at hk;omega);unfold zb2;rw [if_pos ⟨by omega,by omega⟩];rw [show ((0:Nat):Int)=0 from rfl,show bef t 0=[] from rfl,List.nil_append,Nat.sub_zero] at this;rw [show ((n:Int)).toNat=n by omega,this,Option.bind_some,if_pos (zl5 hn)]
theorem z5l {k:Nat} (t:List Rule) (n:Nat) (hn:n≤t.length) (ht:t.length≤5000) (hk:big≤k):zhp k t (n:Int)=some (bef t n):=by
  have key:∀ m j,j≤n→n - j<m→zdb k t (n:Int) m (j:Int) (bef t j) (bef t j).length=some (bef t n,(bef t n).length):=by
    intro m
    induction m with
    |zero=>intro j h1 h2;omega
    |succ m ih =>
      intro j h1 h2;rw [zdb];by_cases c:j<n
      · have ct:j<t.length:=by omega
        have hl:=zl5 (t:=t) (i:=j) (by omega);rw [if_pos (by omega),if_pos ⟨by omega,by omega⟩,if_pos (by omega),zf4 ct,zce j (by omega)];have:=ih (j+1) (by omega) (by omega);rw [zw4 ct,List.length_append,List.length_singleton] at this;exact this
      · obtain rfl:j=n:=by omega
        rw [if_neg (by omega)]
  have:=key k 0 (Nat.zero_le _) (by simp only [big] at hk;omega);unfold zhp;rw [show ((0:Nat):Int)=0 from rfl,show bef t 0=[] from rfl,show (([]:List Pat).length)=0 from rfl] at this;rw [this,Option.bind_some,if_pos rfl]
structure Lit (t:List Rule) (F:List Nat):Prop where
  len:t.length≤1000
  right:∀ r,r∈t→zag r.mat=true
  few:F.length≤12
  mask:∀ r,r∈t→∀ j,j<160→hbit r.mat.mask j=true→j∈F
theorem z04 {t:List Rule} {i:Nat} {q:Pat} (h:q∈bef t i):∃ r,r∈t∧r.mat=q:=by
  unfold bef at h;obtain ⟨r,hr,rfl⟩:=List.mem_map.1 h;exact ⟨r,List.mem_of_mem_take hr,rfl⟩
end
section
open Go Go.RowKit
theorem zx1 {k:Nat} (l:List Pat) (hl:l.length≤1000) (hk:big≤k):zfx k l=some (l.all zag):=by
  unfold zfx
  rw [zmz (L:=zbs k l) l false zag (by simp only [big];omega) (fun m j h=>by
    rw [zbs,if_pos (zav h),if_pos ⟨by omega,zav h⟩,zf4 h,zqy _ (by simp only [big] at hk;omega),Option.bind_some]) (fun m=>by rw [zbs,if_neg (by omega)]) (by simp only [big] at hk;omega),Option.bind_some]
  cases l.all zag<;>rfl
def zn2 (x:Ar 10) (i:Nat):Nat:=((List.range i).filter fun j=>!hbit x j).length
theorem z55 (x:Ar 10) (i:Nat):zn2 x (i+1)+(hbit x i).toNat=zn2 x i+1:=by
  unfold zn2;rw [List.range_succ,List.filter_append,List.length_append];cases h:hbit x i<;>simp [List.filter,h]
theorem yc3 (x:Ar 10) (i:Nat):zn2 x i≤i:=by
  unfold zn2;exact Nat.le_trans (List.length_filter_le _ _) (by rw [List.length_range];exact Nat.le_refl _)
theorem yb5 {k:Nat} {p:Pat} (hp:zac p.mask=true) (hk:160<k):zkd k p=some ((zn2 p.mask 160:Nat):Int):=by
  have key:∀ m i,i≤160→160 - i<m→zdn k p m ((zn2 p.mask i:Nat):Int) (i:Int)=some ((zn2 p.mask 160:Nat):Int):=by
    intro m
    induction m with
    |zero=>intro i h1 h2;omega
    |succ m ih =>
      intro i h1 h2;rw [zdn];by_cases c:i<160
      · have h3:=z55 p.mask i;have h4:=yc3 p.mask i;rw [if_pos (yho c),zie hp c (by omega),Option.bind_some,zce i (by omega),zce _ (by omega)]
        have e:IntKind.i64.wrap (((zn2 p.mask i+1:Nat):Int) - ((hbit p.mask i).toNat:Int))=((zn2 p.mask (i+1):Nat):Int):=by
          have:(hbit p.mask i).toNat≤1:=by cases hbit p.mask i<;>decide
          rw [wr64 (by omega)];omega
        rw [e];exact ih (i+1) (by omega) (by omega)
      · obtain rfl:i=160:=by omega
        rw [if_neg (by decide)]
  have:=key k 0 (by omega) (by omega);unfold zkd;change zdn k p k 0 0=_ at this;rw [this];rfl
theorem ybp:zac (zA 10)=true:=by decide
theorem yiu (j:Nat):hbit (zA 10) j=false:=by
  have e:∀ i:Nat,hw (zA 10) i=0:=fun i=>by
    show ((List.replicate 10 (0:Int)).getD i default).toNat=0;rw [List.getD_eq_getElem?_getD,List.getElem?_replicate];by_cases h:i<10
    · rw [if_pos h];rfl
    · rw [if_neg h];rfl
  unfold hbit;rw [e,Nat.zero_testBit]
theorem z8g {k:Nat} {l:List Pat} (hl:∀ q,q∈l→zag q=true) (hlen:l.length≤1000) (hk:big≤k):∃ F:List Nat,ziz k l=some ((F.length:Nat):Int)∧∀ q,q∈l→∀ j,j<160→hbit q.mask j=true→j∈F:=by
  have hk160:160<k:=Nat.lt_of_lt_of_le (by decide) hk
  have key:∀ m i x,i≤l.length→l.length - i<m→zac x=true→(∀ j,j<160→hbit x j=(l.take i).any fun q=>hbit q.mask j)→∃ y,zd1 k l m (i:Int) x=some y∧zac y=true∧∀ j,j<160→hbit y j=l.any fun q=>hbit q.mask j:=by
    intro m
    induction m with
    |zero=>intro i x h1 h2;omega
    |succ m ih =>
      intro i x h1 h2 hx hb;rw [zd1];by_cases c:i<l.length
      · have hq:=(zam.1 (hl _ (List.getElem_mem c))).1;have hmod:zag ⟨l[i].mask,l[i].mask⟩=true:=zam.2 ⟨hq,hq,fun j _ h=>h⟩;obtain ⟨y,e,hA⟩:=z8h (k:=k) hmod hx hk160;rw [if_pos (zav c),if_pos ⟨by omega,zav c⟩,zf4 c,e,Option.bind_some,zce i (by omega)];refine ih (i+1) y (by omega) (by omega) hA.1 fun j hj=>?_;rw [hA.2 j hj,List.take_add_one,List.getElem?_eq_getElem c,Option.toList_some,List.any_append,hb j hj];show (if hbit l[i].mask j=true then hbit l[i].mask j else _)=_
        cases hm:hbit l[i].mask j with
        |true=>simp [hm]
        |false=>simp [hm]
      · obtain rfl:i=l.length:=by omega
        rw [if_neg (by omega)];rw [List.take_length] at hb;exact ⟨x,rfl,hx,hb⟩
  obtain ⟨y,e,hy,hb⟩:=key k 0 (zA 10) (Nat.zero_le _) (by simp only [big] at hk;omega) ybp (fun j hj=>by rw [yiu];rfl);refine ⟨(List.range 160).filter (hbit y),?_,fun q hq j hj hm=>List.mem_filter.2 ⟨List.mem_range.2 hj,by rw [hb j hj,List.any_eq_true];exact ⟨q,hq,hm⟩⟩⟩;unfold ziz;rw [show ((0:Nat):Int)=0 from rfl] at e;rw [e,Option.bind_some,yb5 (p:=⟨y,zA 10⟩) hy hk160,Option.bind_some];have h1:=zn4 (hbit y) (List.range 160);rw [List.length_range] at h1;have h2:zn2 y 160=((List.range 160).filter fun x=>!hbit y x).length:=rfl;rw [show zn2 (⟨y,zA 10⟩:Pat).mask 160=zn2 y 160 from rfl,wr64 (by omega)];congr 1;omega
theorem yhh {k:Nat} {l:List Pat} (hlen:l.length≤1000) (hk:big≤k):∃ b,zmj k l 12=some b∧(b=true→(∀ q,q∈l→zag q=true)∧∃ F:List Nat,F.length≤12∧∀ q,q∈l→∀ j,j<160→hbit q.mask j=true→j∈F):=by
  unfold zmj;rw [zx1 l hlen hk,Option.bind_some]
  cases hr:l.all zag with
  |false=>exact ⟨_,by rw [if_neg (by simp)],fun h=>by cases h⟩
  |true =>
    have hl:=fun q hq=>(List.all_eq_true.1 hr) q hq;rw [if_pos rfl];by_cases c:(l.length:Int)≤12
    · rw [if_pos c];obtain ⟨F,e,hF⟩:=z8g hl hlen hk;rw [e,Option.bind_some];refine ⟨_,rfl,fun h=>⟨hl,F,?_,hF⟩⟩;have:=of_decide_eq_true h;omega
    · rw [if_neg c];exact ⟨_,rfl,fun h=>by cases h⟩
theorem z8e {k:Nat} {t:List Rule} (ht:t.length≤1000) (hk:big≤k):∃ b,ziv k t=some b∧(b=true→∃ F,Lit t F):=by
  unfold ziv;have hbl:=zl5 (t:=t) (i:=t.length) (Nat.le_refl _);obtain ⟨b,e,h⟩:=yhh (k:=k) (l:=bef t t.length) (by omega) hk;rw [z5l t t.length (Nat.le_refl _) (by omega) hk,Option.bind_some,e,Option.bind_some];refine ⟨b,rfl,fun hb=>?_⟩;obtain ⟨h1,F,h2,h3⟩:=h hb;have hm:∀ r,r∈t→r.mat∈bef t t.length:=fun r hr=>by unfold bef;rw [List.take_length];exact List.mem_map.2 ⟨r,hr,rfl⟩
  exact ⟨F,ht,fun r hr=>h1 _ (hm r hr),h2,fun r hr=>h3 _ (hm r hr)⟩
end
section
open Go Go.RowKit
theorem zlc {α:Type} [Inhabited α] {l:List α} {i:Nat} (h:i<l.length):l.getD i default∈l:=by
  rw [List.getD_eq_getElem?_getD,List.getElem?_eq_getElem h];exact List.getElem_mem h
def zkn (n:Net) (k:Int):Prop:=0≤k∧k<(n.nodes.length:Int)
instance (n:Net) (k:Int):Decidable (zkn n k):=by unfold zkn;infer_instance
structure zp4 (n:Net):Prop where
  nodes:n.nodes.length≤10
  links:n.links.length≤24
  frm:∀ k,k<n.links.length→0≤(n.links.getD k default).frm∧(n.links.getD k default).frm<(n.nodes.length:Int)
  to:∀ k,k<n.links.length→0≤(n.links.getD k default).to∧(n.links.getD k default).to<(n.nodes.length:Int)
  apart:∀ k,k<n.links.length→(n.links.getD k default).frm≠(n.links.getD k default).to
  cap:∀ k,k<n.links.length→0≤(n.links.getD k default).cap∧(n.links.getD k default).cap≤1048576
theorem yiq (k:Nat) (s:ByteArray) (hs:s.size<9223372036854775808):∀ (m i:Nat),i≤s.size→s.size - i<m→∃ r,zdm k s m (i:Int)=some r:=by
  intro m
  induction m with
  |zero=>intro i h1 h2;omega
  |succ m ih =>
    intro i h1 h2;rw [zdm];by_cases c:(i:Int)<(s.size:Int)
    · obtain ⟨r,hr⟩:=ih (i+1) (by omega) (by omega);have g:(0:Int)≤(i:Int)∧(i:Int)<(s.size:Int):=⟨by omega,c⟩
      have A1:∃ b,(if (0:Int)≤(i:Int)∧(i:Int)<(s.size:Int) then (if 97≤((bx s (i:Int)).toNat:Int) then some (decide (((bx s (i:Int)).toNat:Int)≤122)) else some false) else none)=some b:=by
        rw [if_pos g];split<;>exact ⟨_,rfl⟩
      have A2:∃ b,(if (0:Int)≤(i:Int)∧(i:Int)<(s.size:Int) then (if 48≤((bx s (i:Int)).toNat:Int) then (if ((bx s (i:Int)).toNat:Int)≤57 then some true else some (decide (((bx s (i:Int)).toNat:Int)=95))) else some (decide (((bx s (i:Int)).toNat:Int)=95))) else none)=some b:=by
        rw [if_pos g];split
        · split<;>exact ⟨_,rfl⟩
        · exact ⟨_,rfl⟩
      obtain ⟨b1,h1⟩:=A1;obtain ⟨b2,h2⟩:=A2;rw [if_pos c,h1,h2,zce i (by omega),hr];simp only [Option.bind_some]
      (repeat' split)<;>exact ⟨_,rfl⟩
    · rw [if_neg c];exact ⟨_,rfl⟩
theorem ydu {k:Nat} (hk:9223372036854775808≤k) (s:ByteArray) (hs:s.size<9223372036854775808):∃ r,zkc k s=some r:=by
  obtain ⟨r,h⟩:=yiq k s hs k 0 (by omega) (by omega);rw [show ((0:Nat):Int)=0 from rfl] at h;unfold zkc;rw [h,Option.bind_some]
  cases r with
  |inl b=>exact ⟨_,rfl⟩
  |inr u=>simp only [Sum.elim_inr];split<;>exact ⟨_,rfl⟩
theorem yci (k:Nat) (l:List ByteArray) (e:Nat) (he:e<l.length) (hl:l.length<9223372036854775808):∀ (m i:Nat),i≤e→e - i<m→∃ r,zdt k l (e:Int) m (i:Int)=some r:=by
  intro m
  induction m with
  |zero=>intro i h1 h2;omega
  |succ m ih =>
    intro i h1 h2;rw [zdt];by_cases c:(i:Int)<(e:Int)
    · obtain ⟨r,hr⟩:=ih (i+1) (by omega) (by omega);rw [if_pos c,if_pos ⟨by omega,by omega⟩,zce i (by omega),hr];split<;>exact ⟨_,rfl⟩
    · rw [if_neg c];exact ⟨_,rfl⟩
theorem ycj {k:Nat} (hk:9223372036854775808≤k) (l:List ByteArray) (hl:l.length<9223372036854775808) (hs:∀ s,s∈l→s.size<9223372036854775808):∀ (m i:Nat),i≤l.length→l.length - i<m→∃ r,zdu k l m (i:Int)=some r:=by
  intro m
  induction m with
  |zero=>intro i h1 h2;omega
  |succ m ih =>
    intro i h1 h2;rw [zdu];by_cases c:(i:Int)<(l.length:Int)
    · have hi:i<l.length:=by omega
      obtain ⟨r,hr⟩:=ih (i+1) (by omega) (by omega);obtain ⟨b,hb⟩:=ydu hk (l.getD i default) (hs _ (zlc hi));obtain ⟨r1,h1⟩:=yci k l i hi hl k 0 (by omega) (by omega);rw [show ((0:Nat):Int)=0 from rfl] at h1;rw [if_pos c,if_pos ⟨by omega,c⟩,zce i (by omega),zo0 l i,hb,h1,hr]
      cases b with
      |false=>exact ⟨_,rfl⟩
      |true=>cases r1<;>exact ⟨_,rfl⟩
    · rw [if_neg c];exact ⟨_,rfl⟩
theorem zyg {k:Nat} (hk:9223372036854775808≤k) (l:List ByteArray) (hl:l.length<9223372036854775808) (hs:∀ s,s∈l→s.size<9223372036854775808):∃ r,zhh k l=some r:=by
  obtain ⟨r,h⟩:=ycj hk l hl hs k 0 (by omega) (by omega);rw [show ((0:Nat):Int)=0 from rfl] at h;unfold zhh;rw [h,Option.bind_some];cases r<;>exact ⟨_,rfl⟩
theorem ydt (k:Nat) (n:Net) (hn:n.nodes.length≤1000) (hs:∀ x,x∈n.nodes→x.name.size<9223372036854775808):∀ (m i:Nat) (l:List ByteArray),i≤n.nodes.length→n.nodes.length - i<m→l.length=i→(∀ s,s∈l→s.size<9223372036854775808) →
    ∃ l',zdw k n m (i:Int) l i=some (l',l'.length)∧l'.length=n.nodes.length∧∀ s,s∈l'→s.size<9223372036854775808:=by
  intro m
  induction m with
  |zero=>intro i l h1 h2;omega
  |succ m ih =>
    intro i l h1 h2 h3 h4;rw [zdw];by_cases c:(i:Int)<(n.nodes.length:Int)
    · have hi:i<n.nodes.length:=by omega
      rw [if_pos c,if_pos ⟨by omega,c⟩,if_pos (by omega),zce i (by omega),zo0 n.nodes i];refine ih (i+1) _ (by omega) (by omega) (by simp [h3]) fun s hm=>?_;rcases List.mem_append.1 hm with q|q
      · exact h4 s q
      · simp only [List.mem_singleton] at q;subst q;exact hs _ (zlc hi)
    · rw [if_neg c];exact ⟨l,by rw [h3],by omega,h4⟩
theorem yds (k:Nat) (n:Net) (hn:n.edges.length≤1000) (hs:∀ x,x∈n.edges→x.name.size<9223372036854775808):∀ (m i:Nat) (l:List ByteArray),i≤n.edges.length→n.edges.length - i<m→l.length=i→(∀ s,s∈l→s.size<9223372036854775808) →
    ∃ l',zdv k n m (i:Int) l i=some (l',l'.length)∧l'.length=n.edges.length∧∀ s,s∈l'→s.size<9223372036854775808:=by
  intro m
  induction m with
  |zero=>intro i l h1 h2;omega
  |succ m ih =>
    intro i l h1 h2 h3 h4;rw [zdv];by_cases c:(i:Int)<(n.edges.length:Int)
    · have hi:i<n.edges.length:=by omega
      rw [if_pos c,if_pos ⟨by omega,c⟩,if_pos (by omega),zce i (by omega),zo0 n.edges i];refine ih (i+1) _ (by omega) (by omega) (by simp [h3]) fun s hm=>?_;rcases List.mem_append.1 hm with q|q
      · exact h4 s q
      · simp only [List.mem_singleton] at q;subst q;exact hs _ (zlc hi)
    · rw [if_neg c];exact ⟨l,by rw [h3],by omega,h4⟩
theorem zko {k:Nat} {n:Net} (v:Int):zfk k n v=some (decide (zkn n v)):=by
  unfold zfk zkn;by_cases h:0≤v
  · rw [if_pos h];simp [h]
  · rw [if_neg h];simp [h]
theorem yky (k:Nat) (n:Net) (hn:n.nodes.length≤1000):∀ (m i:Nat),i≤n.nodes.length→n.nodes.length - i<m→∃ r,zdz k n m (i:Int)=some r∧(r=.inr ()∨r=.inl 1):=by
  intro m
  induction m with
  |zero=>intro i h1 h2;omega
  |succ m ih =>
    intro i h1 h2;rw [zdz];by_cases c:(i:Int)<(n.nodes.length:Int)
    · obtain ⟨r,hr,hq⟩:=ih (i+1) (by omega) (by omega);rw [if_pos c,if_pos ⟨by omega,c⟩,zce i (by omega),hr]
      (repeat' split)<;>first|exact ⟨_,rfl,.inr rfl⟩|exact ⟨_,rfl,hq⟩
    · rw [if_neg c];exact ⟨_,rfl,.inl rfl⟩
def ygy (n:Net) (l:Link):Prop:=zkn n l.frm∧zkn n l.to∧l.frm≠l.to∧0≤l.cap∧l.cap≤1048576
theorem ykx (k:Nat) (n:Net) (hn:n.links.length≤10000):∀ (m i:Nat),i≤n.links.length→n.links.length - i<m→(∀ j,j<i→ygy n (n.links.getD j default))→∃ r,zdy k n m (i:Int)=some r∧((r=.inr ()∧∀ j,j<n.links.length→ygy n (n.links.getD j default))∨r=.inl 1):=by
  intro m
  induction m with
  |zero=>intro i h1 h2;omega
  |succ m ih =>
    intro i h1 h2 h3;rw [zdy];by_cases c:(i:Int)<(n.links.length:Int)
    · have hi:i<n.links.length:=by omega
      rw [if_pos c,if_pos ⟨by omega,c⟩,zce i (by omega),zo0 n.links i,zko,zko,Option.bind_some,Option.bind_some];by_cases q1:zkn n (n.links.getD i default).frm
      · rw [if_pos (decide_eq_true q1)];by_cases q2:zkn n (n.links.getD i default).to
        · rw [if_pos (decide_eq_true q2)];by_cases q3:(n.links.getD i default).frm=(n.links.getD i default).to
          · rw [if_pos q3];exact ⟨_,rfl,.inr rfl⟩
          · rw [if_neg q3];by_cases q4:(n.links.getD i default).cap<0
            · rw [if_pos q4];exact ⟨_,rfl,.inr rfl⟩
            · rw [if_neg q4];by_cases q5:1048576<(n.links.getD i default).cap
              · rw [if_pos q5];exact ⟨_,rfl,.inr rfl⟩
              · rw [if_neg q5];exact ih (i+1) (by omega) (by omega) fun j hj=>by rcases Nat.lt_succ_iff_lt_or_eq.1 hj with q|q;exact h3 j q;rw [q];exact ⟨q1,q2,q3,by omega,by omega⟩
        · rw [if_neg (by simpa using q2)];exact ⟨_,rfl,.inr rfl⟩
      · rw [if_neg (by simpa using q1)];exact ⟨_,rfl,.inr rfl⟩
    · rw [if_neg c];exact ⟨_,rfl,.inl ⟨rfl,fun j hj=>h3 j (by omega)⟩⟩
theorem ykw (k:Nat) (n:Net) (hn:n.edges.length≤1000):∀ (m i:Nat),i≤n.edges.length→n.edges.length - i<m→∃ r,zdx k n m (i:Int)=some r∧(r=.inr ()∨r=.inl 1):=by
  intro m
  induction m with
  |zero=>intro i h1 h2;omega
  |succ m ih =>
    intro i h1 h2;rw [zdx];by_cases c:(i:Int)<(n.edges.length:Int)
    · obtain ⟨r,hr,hq⟩:=ih (i+1) (by omega) (by omega);rw [if_pos c,if_pos ⟨by omega,c⟩,zce i (by omega),hr,zko,Option.bind_some];split
      · exact ⟨_,rfl,hq⟩
      · exact ⟨_,rfl,.inr rfl⟩
    · rw [if_neg c];exact ⟨_,rfl,.inl rfl⟩
structure Held (n:Net):Prop where
  nodes:∀ x,x∈n.nodes→x.name.size<9223372036854775808
  edges:∀ x,x∈n.edges→x.name.size<9223372036854775808
theorem ydw {k:Nat} (hk:9223372036854775808≤k) (n:Net) (h1:n.nodes.length≤10) (h2:n.links.length≤24) (h3:n.edges.length≤20) (hh:Held n):∃ r,zhi k n=some r∧(r=0→zp4 n):=by
  unfold zhi;rw [if_neg (by omega),if_neg (by omega),Option.bind_some,if_neg (by simp only [decide_eq_true_eq];omega)];obtain ⟨l1,a1,a2,a3⟩:=ydt k n (by omega) hh.nodes k 0 [] (by omega) (by omega) rfl (fun s hs=>by simp at hs);obtain ⟨l2,b1,b2,b3⟩:=yds k n (by omega) hh.edges k 0 [] (by omega) (by omega) rfl (fun s hs=>by simp at hs);obtain ⟨r1,c1⟩:=zyg hk l1 (by omega) a3;obtain ⟨r2,c2⟩:=zyg hk l2 (by omega) b3;obtain ⟨d1,e1,g1⟩:=yky k n (by omega) k 0 (by omega) (by omega);obtain ⟨d2,e2,g2⟩:=ykx k n (by omega) k 0 (by omega) (by omega) (fun j hj=>by omega);obtain ⟨d3,e3,g3⟩:=ykw k n (by omega) k 0 (by omega) (by omega);rw [show ((0:Nat):Int)=0 from rfl] at a1 b1 e1 e2 e3
  have hN:zix k n=some (l1,l2):=by
    unfold zix;rw [a1,b1];simp
  rw [hN,Option.bind_some];simp only [c1,c2,Option.bind_some,e1,e2,e3]
  cases r1 with
  |false=>exact ⟨4,rfl,fun h=>by simp at h⟩
  |true =>
    cases r2 with
    |false=>exact ⟨4,rfl,fun h=>by simp at h⟩
    |true =>
      rcases g1 with rfl|rfl
      · rcases g2 with ⟨rfl,hall⟩|rfl
        · have hR:zp4 n:=⟨h1,h2,fun j hj=>(hall j hj).1,fun j hj=>(hall j hj).2.1,fun j hj=>(hall j hj).2.2.1,fun j hj=>(hall j hj).2.2.2⟩;rcases g3 with rfl|rfl
          · exact ⟨0,rfl,fun _=>hR⟩
          · exact ⟨1,rfl,fun h=>by simp at h⟩
        · exact ⟨1,rfl,fun h=>by simp at h⟩
      · exact ⟨1,rfl,fun h=>by simp at h⟩
end
section
open Go Go.RowKit
def yhs (t:List Rule) (j:Int):Int:=if j=0 then 65536 else (gx t (j - 1)).prio
def z32 (n:Net) (steps:Int) (t:List Rule) (j:Nat):Bool:=zul n steps (t.getD j default) && decide ((t.getD j default).prio<yhs t j)
def zuy (n:Net) (steps:Int) (t:List Rule):Int×Int :=
  if steps<0∨1000<steps then (0,1) else if 4000<t.length then (0,2) else
  match (List.range t.length).findSome? (fun j=>if z32 n steps t j=true then none else some ((j:Int),(1:Int))) with
  |some r=>r
  |none=>(0,0)
theorem z8f {k:Nat} (n:Net) (steps:Int) (t:List Rule) (ht:z01 t) (hk:big≤k):ziw k n steps t=some (zuy n steps t):=by
  unfold ziw zuy
  have hloop:zb5 k n steps t k 0=some (sumO ((List.range t.length).findSome? (fun j=>if z32 n steps t j=true then none else some ((j:Int),(1:Int))))):=by
    refine zn0 (L:=zb5 k n steps t) t.length _ ht.1 (fun m j h=>?_) (fun m=>by rw [zb5,if_neg (by omega)]) (Nat.lt_of_lt_of_le ht.1 hk);have hb:j<9223372036854775808:=by have:=ht.1;simp only [big] at this;omega
    rw [zb5,if_pos (zav h),if_pos ⟨by omega,zav h⟩,zf4 h,z5m n steps _ (ht.2 _ (List.getElem_mem h)) hk,Option.bind_some]
    have hg:z32 n steps t j=(zul n steps t[j] && decide (t[j].prio<yhs t j)):=by
      unfold z32;rw [List.getD_eq_getElem?_getD,List.getElem?_eq_getElem h];rfl
    rw [hg]
    cases hf:zul n steps t[j] with
    |false=>rfl
    |true =>
      simp only [if_true,Bool.true_and,decide_eq_true_eq];unfold yhs;by_cases c0:0<(j:Int)
      · have e1:IntKind.i64.wrap ((j:Int) - 1)=((j - 1:Nat):Int):=by rw [wr64 (by omega)];omega
        have e2:(j:Int) - 1=((j - 1:Nat):Int):=by omega
        have h2:j - 1<t.length:=by omega
        rw [if_pos c0,e1,if_pos ⟨by omega,by omega⟩,if_neg (show ¬ (j:Int)=0 by omega),e2,zf4 h2];by_cases c:t[j - 1].prio≤t[j].prio
        · rw [if_pos c,if_neg (by omega)]
        · rw [if_neg c,if_pos (by omega)]
      · have hp:t[j].prio≤65535:=by
          unfold zul at hf;simp only [Bool.and_eq_true,decide_eq_true_eq] at hf;exact hf.1.2
        rw [if_neg c0,if_pos (show (j:Int)=0 by omega),if_pos (by omega)]
  rw [hloop];by_cases c1:steps<0
  · rw [if_pos c1,if_pos (show steps<0∨1000<steps from .inl c1)];rfl
  · rw [if_neg c1];by_cases c2:1000<steps
    · rw [decide_eq_true c2,if_pos (show steps<0∨1000<steps from .inr c2)];rfl
    · rw [decide_eq_false c2,if_neg (show ¬ (steps<0∨1000<steps) by omega),Option.bind_some];simp only [Bool.false_eq_true,if_false];by_cases c3:4000<t.length
      · rw [if_pos (by omega),if_pos c3]
      · rw [if_neg (by omega),if_neg c3,Option.bind_some];cases (List.range t.length).findSome? _<;>rfl
def fewT (t:List Rule) (most:Int):Bool:=t.all (fun r=>decide (r.outs.length≤20) && r.outs.all fun l=>decide (l.length≤10)) && decide ((t.length:Int)≤most)
theorem yhg {k:Nat} (t:List Rule) (most:Int) (ht:z01 t) (hk:big≤k):zmf k t most=some (fewT t most):=by
  unfold zmf fewT
  rw [zmz (L:=zen k t) t false (fun r=>decide (r.outs.length≤20) && r.outs.all fun l=>decide (l.length≤10)) ht.1 (fun m j h=>by
    rw [zen,if_pos (zav h),if_pos ⟨by omega,zav h⟩,zf4 h];by_cases c:20<(t[j].outs.length:Int)
    · rw [if_pos c,decide_eq_false (by omega)];rfl
    · rw [if_neg c,decide_eq_true (by omega)];have hr:=(ht.2 _ (List.getElem_mem h)).1
      rw [zmz (L:=zem k t (j:Int)) t[j].outs false (fun l=>decide (l.length≤10)) hr (fun m i hi=>by
        rw [zem,zf4 h,if_pos (zav hi),if_pos ⟨by omega,zav hi⟩,zf4 hi];by_cases d:10<(t[j].outs[i].length:Int)
        · rw [if_pos d,decide_eq_false (by omega)];rfl
        · rw [if_neg d,decide_eq_true (by omega)];rfl) (fun m=>by rw [zem,zf4 h,if_neg (by omega)]) (Nat.lt_of_lt_of_le hr hk),Option.bind_some]
      simp only [Bool.true_and]
      cases t[j].outs.all _<;>rfl) (fun m=>by rw [zen,if_neg (by omega)]) (Nat.lt_of_lt_of_le ht.1 hk),Option.bind_some]
  cases t.all _<;>rfl
end
section
open Go Go.RowKit
/-! links that are up -/
theorem z39 {α:Type} [Inhabited α] (q:α→Bool):∀ (l:List α),(l.find? q=none∧idxB q l=-1)∨∃ i:Nat,∃ h:i<l.length,idxB q l=(i:Int)∧l.find? q=some l[i]
  |[]=>.inl ⟨rfl,rfl⟩
  |x :: l=>by
    unfold idxB;rw [List.findIdx?_cons,List.find?_cons]
    cases hq:q x with
    |true=>exact .inr ⟨0,by simp,rfl,rfl⟩
    |false =>
      rcases z39 q l with ⟨h1,h2⟩|⟨i,hi,h1,h2⟩
      · left;unfold idxB at h2;refine ⟨h1,?_⟩
        cases hf:l.findIdx? q with
        |none=>rfl
        |some j=>rw [hf] at h2;simp at h2;try omega
      · right;unfold idxB at h1;refine ⟨i+1,by simpa using hi,?_,by simpa using h2⟩
        cases hf:l.findIdx? q with
        |none=>rw [hf] at h1;simp at h1;try omega
        |some j=>rw [hf] at h1;simp at h1 ⊢;omega
structure CanSend (n:Net) (r:Rule):Prop where
  len:r.outs.length≤16
  alts:∀ l,l∈r.outs→l.length≤8
  link:∀ l,l∈r.outs→∀ a,a∈l→a.link<(n.links.length:Int)
  mod:∀ l,l∈r.outs→∀ a,a∈l→zag a.mod=true
/-! looking up -/
def yhq (t:List Rule) (h:Ar 10):Int:=idxB (fun r=>za5 r.mat h) t
end
section
open Go Go.RowKit
end
section
open Go Go.RowKit
set_option maxRecDepth 100000
def zd2 (k:Nat) (n:Net) (tables:List (List Rule)):Nat→Int→(List Rule)→Nat→Option (Bool ⊕ (List Rule×Nat))
 |0,_,_,_=>none
 |m+1,i,l,n2=>(if i<(tables.length:Int) then (if (0:Int)≤i∧i<(tables.length:Int) then ((zmf k (gx tables i) 8).bind fun rFew2=>(if rFew2=true then ((ziw k n 1000 (gx tables i)).bind fun rCheck2=>(if rCheck2.2≠0 then some (.inl false) else (if (n2+(gx tables i).length)*201≤1000000000 then (if (gx tables i).length=0 then zd2 k n tables m (IntKind.i64.wrap (i+1)) l n2 else zd2 k n tables m (IntKind.i64.wrap (i+1)) (l++(gx tables i)) (n2+(gx tables i).length)) else none))) else some (.inl false))) else none) else some (.inr (l,n2)))
def zmo (k:Nat) (n:Net) (tables:List (List Rule)):Option Bool:=((((zmh k n 10 24 20).bind fun rFew=>(if rFew=true then ((zhi k n).bind fun rCheck=>some (decide (rCheck≠0))) else some true)):Option Bool).bind fun s_=>(if s_=true then some false else ((zd2 k n tables k 0 [] 0:Option (Bool ⊕ (List Rule×Nat))).bind fun o=>Sum.elim (fun r=>some r) (fun s_2=>(if s_2.1.length=s_2.2 then ((ziv k s_2.1).bind fun rLight=>some rLight) else none)) o)))
set_option maxHeartbeats 8000000 in
theorem zji (ax:Axs) (hx:zcs ax) (k:Nat) (n:Net) (tables:List (List Rule)) (v:Bool) (H:zmo k n tables=some v):Pure Tryz.prog (EE ax) [] 27 [eNet n,zov tables] (.bool v):=by
 rw [zmo] at H;refine en [.tmp 4] 41 [0,1] (hx.no _ (by decide)) (fn27 ax) ?_;intro h hh;repeat apply TW.seq
 refine rk [1,2] [] hh ?_;clear hh h;intro h hh;obtain ⟨s_,H1,H⟩:=zaf H;repeat apply TW.seq
 refine cu [1,2,17] 1 (fun h bs=>(h 1=zov tables∧h 2=.ptr 0 0 3∧h 17=.bool s_)∧bs=[.cells true 3 [za8 n.nodes,za9 n.links,zba n.edges]]) ?_ ?_
 ·skip;obtain ⟨rFew,e1,H1⟩:=zaf H1;rcases isb H1 with ⟨c2,H1⟩|⟨c2,H1⟩;rotate_left
  ·skip;repeat apply TW.seq
   refine rkc [1,2,17] [] [(.bool rFew,stL [.cells true 3 [za8 n.nodes,za9 n.links,zba n.edges]])] (f2 hh c2) ?_ ?_
   ·exact ⟨za4.call (Pure.clr (zqe ax hx k n 10 24 20 rFew e1 ) (by first|rfl|simp only [c2])),trivial⟩
   clear hh h;intro h hh;cases H1;exact ce hh ⟨kq hh,rfl⟩
  obtain ⟨rCheck,e3,H1⟩:=zaf H1;repeat apply TW.seq
  refine rkc [1,2,17] [] [(.bool rFew,stL [.cells true 3 [za8 n.nodes,za9 n.links,zba n.edges]]),(.int .i64 rCheck,stL [.cells true 3 [za8 n.nodes,za9 n.links,zba n.edges]])] (f2 hh c2) ?_ ?_
  ·exact ⟨za4.call (Pure.clr (zqe ax hx k n 10 24 20 rFew e1 ) (by first|rfl|simp only [c2])),za4.call (Pure.clr (zvq ax hx k n rCheck e3 ) (by first|rfl|simp only [c2])),trivial⟩
  clear hh h;intro h hh;cases H1;exact ce hh ⟨kq hh,rfl⟩
 clear hh h;rintro h bs ⟨hh,rfl⟩;rcases isb H with ⟨c4,H⟩|⟨c4,H⟩;rotate_left
 ·skip;repeat apply TW.seq
  refine cf (f2 hh c4) ?_;repeat apply TW.seq
  refine sk ?_;repeat apply TW.seq
  refine rk [1,2,5] [] (f2 hh c4) ?_;clear hh h;intro h hh;refine vk 5 23 [1,2,5] hh ?_;clear hh h;intro h hh;repeat apply TW.seq
  refine rk [2,5,18,19,20] [] (f3 hh c4 (yi1 ax)) ?_;clear hh h;intro h hh;obtain ⟨o,H1,H⟩:=zaf H;repeat apply TW.seq
  refine cu [5] 2 (fun h bs=>∃ s_2:List Rule×Nat,o=.inr s_2∧(h 5=.arr 1 23 0 s_2.2 s_2.2 (s_2.2*23))∧bs=[.cells true 3 [za8 n.nodes,za9 n.links,zba n.edges],.cells false (s_2.2*23) (vecC zaz s_2.1)]) ?_ ?_
  ·skip;repeat apply TW.seq
   apply TW.block;repeat apply TW.seq
   refine TW.loopT [2,5,18,19,20] (fun m h bs=>∃ (i:Int) (l:List Rule) (n2:Nat),zd2 k n tables m i l n2=some o∧(h 2=.ptr 0 0 3∧h 5=.arr 1 23 0 n2 n2 (n2*23)∧h 18=zov tables∧h 19=.int .i64 (tables.length:Int)∧h 20=.int .i64 i)∧bs=[.cells true 3 [za8 n.nodes,za9 n.links,zba n.edges],.cells false (n2*23) (vecC zaz l)]) ?_ k _ _ ?_;rotate_left
   ·exact ⟨0,[],0,H1,kq hh,rfl⟩
   clear hh h H1;rintro m h bs ⟨i,l,n2,H1,hh,rfl⟩;rcases m with _|m
   ·rw [zd2] at H1;cases H1
   rw [zd2] at H1;repeat apply TW.seq
   refine rk [2,5,18,19,20,21] [] (f2 hh c4) ?_;clear hh h;intro h hh;rcases isp H1 with ⟨c5,H1⟩|⟨c5,H1⟩;rotate_left
   ·skip;repeat apply TW.seq
    refine cf (f2 hh (decide_eq_false c5)) ?_;refine xk ?_;cases H1;exact ce hh ⟨_,rfl,kq hh,rfl⟩
   repeat apply TW.seq
   refine ct (f2 hh (decide_eq_true c5)) ?_;repeat apply TW.seq
   refine sk ?_;repeat apply TW.seq
   apply TW.block;obtain ⟨g6,H1⟩:=isg H1;repeat apply TW.seq
   refine rk [2,5,7,18,19,20] [] (f3 hh c4 (f2 (zar g6) (yi1 ax))) ?_;clear hh h;intro h hh;obtain ⟨rFew2,e7,H1⟩:=zaf H1;repeat apply TW.seq
   refine rkc [2,5,7,18,19,20,26] [] [(.bool rFew2,stL [.cells true 3 [za8 n.nodes,za9 n.links,zba n.edges],.cells false (n2*23) (vecC zaz l)])] (f2 hh c4) ?_ ?_
   ·exact ⟨za4.call (Pure.clr (z0m ax hx k (gx tables i) 8 rFew2 e7 ) (by first|rfl|simp only [c4])),trivial⟩
   clear hh h;intro h hh;rcases isb H1 with ⟨c8,H1⟩|⟨c8,H1⟩;rotate_left
   ·skip;repeat apply TW.seq
    refine ct (f2 hh c8) ?_;repeat apply TW.seq
    refine rk [4] [] (f3 hh c4 c8) ?_;clear hh h;intro h hh;cases H1;obtain rfl:=sinl H;exact rt hh
   repeat apply TW.seq
   refine cf (f2 hh c8) ?_;repeat apply TW.seq
   refine sk ?_;obtain ⟨rCheck2,e9,H1⟩:=zaf H1;repeat apply TW.seq
   refine rkc [2,5,7,9,18,19,20] [] [(.tup [.int .i64 rCheck2.1,.int .i64 rCheck2.2],stL [.cells true 3 [za8 n.nodes,za9 n.links,zba n.edges],.cells false (n2*23) (vecC zaz l)])] (f3 hh c4 c8) ?_ ?_
   ·exact ⟨za4.call (Pure.clr (zvo ax hx k n 1000 (gx tables i) rCheck2 e9 ) (by first|rfl|simp only [c4,c8])),trivial⟩
   clear hh h;intro h hh;repeat apply TW.seq
   refine rk [2,5,7,18,19,20,34] [] (f3 hh c4 c8) ?_;clear hh h;intro h hh;rcases isp H1 with ⟨c10,H1⟩|⟨c10,H1⟩;rotate_left
   ·skip;repeat apply TW.seq
    refine cf (f2 hh (decide_eq_false c10)) ?_;repeat apply TW.seq
    refine sk ?_;obtain ⟨g11,H1⟩:=isg H1;rcases isp H1 with ⟨c12,H1⟩|⟨c12,H1⟩;rotate_left
    ·skip;repeat apply TW.seq
     refine rg [] [] [.cells true 3 [za8 n.nodes,za9 n.links,zba n.edges],.cells false ((n2+(gx tables i).length)*23) (vecC zaz (l++(gx tables i)))] (fun h=>h 2=.ptr 0 0 3∧h 5=.arr 1 23 0 (n2+(gx tables i).length) (n2+(gx tables i).length) ((n2+(gx tables i).length)*23)∧h 18=zov tables∧h 19=.int .i64 (tables.length:Int)∧h 20=.int .i64 i) (f3 hh c4 (f3 c8 (zhd zaz (gx tables i)) (f3 (zey (f:=zaz) (e:=23) (fun x=>za6 x) (gx tables i)) (zgq (f:=zaz) (fun x=>zhy x) (gx tables i)) (f2 (el28 ax) (sr28 ax))))) trivial ?_;clear hh h;intro h hh;repeat apply TW.seq
     refine rk [2,5,18,19,20] [] (f3 hh c4 c8) ?_;clear hh h;intro h hh;exact rd m hh ⟨(IntKind.i64.wrap (i+1)),(l++(gx tables i)),(n2+(gx tables i).length),H1,kq hh,rfl⟩
    repeat apply TW.seq
    refine rg [] [] [.cells true 3 [za8 n.nodes,za9 n.links,zba n.edges],.cells false (n2*23) (vecC zaz l)] (fun h=>h 2=.ptr 0 0 3∧h 5=.arr 1 23 0 n2 n2 (n2*23)∧h 18=zov tables∧h 19=.int .i64 (tables.length:Int)∧h 20=.int .i64 i) (f3 hh c4 (f3 c8 c12 (f3 (zhd zaz (gx tables i)) (zey (f:=zaz) (e:=23) (fun x=>za6 x) (gx tables i)) (f3 (zgq (f:=zaz) (fun x=>zhy x) (gx tables i)) (el28 ax) (sr28 ax))))) trivial ?_;clear hh h;intro h hh;repeat apply TW.seq
    refine rk [2,5,18,19,20] [] (f3 hh c4 (f2 c8 c12)) ?_;clear hh h;intro h hh;exact rd m hh ⟨(IntKind.i64.wrap (i+1)),l,n2,H1,kq hh,rfl⟩
   repeat apply TW.seq
   refine ct (f2 hh (decide_eq_true c10)) ?_;repeat apply TW.seq
   refine rk [4] [] (f3 hh c4 c8) ?_;clear hh h;intro h hh;cases H1;obtain rfl:=sinl H;exact rt hh
  clear hh h;rintro h bs ⟨s_2,rfl,hh,rfl⟩;replace H:=sinr H;obtain ⟨g13,H⟩:=isg H;obtain ⟨rLight,e14,H⟩:=zaf H;repeat apply TW.seq
  refine rkc [4] [] [(.bool rLight,stL [.cells true 3 [za8 n.nodes,za9 n.links,zba n.edges],.cells false (s_2.2*23) (vecC zaz s_2.1)])] (f2 hh c4) ?_ ?_
  ·exact ⟨(by have q:=za4.call (Pure.lend (S:=stL [.cells true 3 [za8 n.nodes,za9 n.links,zba n.edges],.cells false (s_2.2*23) (vecC zaz s_2.1)]) (args:=[.arr 1 23 0 s_2.2 s_2.2 (s_2.2*23)]) (zvn ax hx k s_2.1 rLight e14 ) (And.intro (zpp (fun x=>za6 x) (by decide) (by rfl) g13) (trivial)) rfl);(try simp only [c4] at q);exact q),trivial⟩
  clear hh h;intro h hh;cases H;exact rt hh
 repeat apply TW.seq
 refine ct (f2 hh c4) ?_;repeat apply TW.seq
 refine rk [4] [] (f2 hh c4) ?_;clear hh h;intro h hh;cases H;exact rt hh
def zfe (k:Nat) (x:Int):Option Bool:=some (decide (x≠x))
set_option maxHeartbeats 8000000 in
theorem zi2 (ax:Axs) (hx:zcs ax) (k:Nat) (x:Int) (v:Bool) (H:zfe k x=some v):Pure Tryz.prog (EE ax) [] 144 [.int .i64 x] (.bool v):=by
 rw [zfe] at H;refine en [.tmp 2] 6 [0] (hx.no _ (by decide)) (fn144 ax) ?_;intro h hh;repeat apply TW.seq
 refine rk [0] [] hh ?_;clear hh h;intro h hh;repeat apply TW.seq
 refine rk [2] [] hh ?_;clear hh h;intro h hh;cases H;exact rt hh
def zd8 (k:Nat) (x:Int) (y:Int):Option Int:=((zfe k x).bind fun rint=>((zfe k y).bind fun rint2=>(if rint=true then (if rint2=true then some 0 else some (-1)) else (if rint2=true then some 1 else (if x<y then some (-1) else (if y<x then some 1 else some 0))))))
set_option maxHeartbeats 8000000 in
theorem zlw (ax:Axs) (hx:zcs ax) (k:Nat) (x:Int) (y:Int) (v:Int) (H:zd8 k x y=some v):Pure Tryz.prog (EE ax) [] 124 [.int .i64 x,.int .i64 y] (.int .i64 v):=by
 rw [zd8] at H;refine en [.tmp 4] 20 [0,1] (hx.no _ (by decide)) (fn124 ax) ?_;intro h hh;repeat apply TW.seq
 refine rk [0,1] [] hh ?_;clear hh h;intro h hh;obtain ⟨rint,e1,H⟩:=zaf H;repeat apply TW.seq
 refine rkc [0,1,5] [] [(.bool rint,stL [])] hh ?_ ?_
 ·exact ⟨za4.call ((zi2 ax hx k x rint e1 ).call _),trivial⟩
 clear hh h;intro h hh;obtain ⟨rint2,e2,H⟩:=zaf H;repeat apply TW.seq
 refine rkc [0,1,5,6] [] [(.bool rint2,stL [])] hh ?_ ?_
 ·exact ⟨za4.call ((zi2 ax hx k y rint2 e2 ).call _),trivial⟩
 clear hh h;intro h hh;repeat apply TW.seq
 refine rk [0,1,6,11] [] hh ?_;clear hh h;intro h hh;rcases isb H with ⟨c3,H⟩|⟨c3,H⟩;rotate_left
 ·skip;repeat apply TW.seq
  refine cf (f2 hh c3) ?_;repeat apply TW.seq
  refine sk ?_;repeat apply TW.seq
  refine rk [0,1,13] [] (f2 hh c3) ?_;clear hh h;intro h hh;rcases isb H with ⟨c5,H⟩|⟨c5,H⟩;rotate_left
  ·skip;repeat apply TW.seq
   refine cf (f2 hh c5) ?_;repeat apply TW.seq
   refine sk ?_;repeat apply TW.seq
   refine rk [0,1,16] [] (f3 hh c3 c5) ?_;clear hh h;intro h hh;rcases isp H with ⟨c6,H⟩|⟨c6,H⟩;rotate_left
   ·skip;repeat apply TW.seq
    refine cf (f2 hh (decide_eq_false c6)) ?_;repeat apply TW.seq
    refine sk ?_;repeat apply TW.seq
    refine rk [19] [] (f3 hh c3 c5) ?_;clear hh h;intro h hh;rcases isp H with ⟨c7,H⟩|⟨c7,H⟩;rotate_left
    ·skip;repeat apply TW.seq
     refine cf (f2 hh (decide_eq_false c7)) ?_;repeat apply TW.seq
     refine sk ?_;repeat apply TW.seq
     refine rk [4] [] (f3 hh c3 c5) ?_;clear hh h;intro h hh;cases H;exact rt hh
    repeat apply TW.seq
    refine ct (f2 hh (decide_eq_true c7)) ?_;repeat apply TW.seq
    refine rk [4] [] (f3 hh c3 c5) ?_;clear hh h;intro h hh;cases H;exact rt hh
   repeat apply TW.seq
   refine ct (f2 hh (decide_eq_true c6)) ?_;repeat apply TW.seq
   refine rk [4] [] (f3 hh c3 c5) ?_;clear hh h;intro h hh;cases H;exact rt hh
  repeat apply TW.seq
  refine ct (f2 hh c5) ?_;repeat apply TW.seq
  refine rk [4] [] (f3 hh c3 c5) ?_;clear hh h;intro h hh;cases H;exact rt hh
 repeat apply TW.seq
 refine ct (f2 hh c3) ?_;repeat apply TW.seq
 refine rk [12] [] (f2 hh c3) ?_;clear hh h;intro h hh;rcases isb H with ⟨c4,H⟩|⟨c4,H⟩;rotate_left
 ·skip;repeat apply TW.seq
  refine cf (f2 hh c4) ?_;repeat apply TW.seq
  refine sk ?_;repeat apply TW.seq
  refine rk [4] [] (f3 hh c3 c4) ?_;clear hh h;intro h hh;cases H;exact rt hh
 repeat apply TW.seq
 refine ct (f2 hh c4) ?_;repeat apply TW.seq
 refine rk [4] [] (f3 hh c3 c4) ?_;clear hh h;intro h hh;cases H;exact rt hh
def zay (k:Nat) (s1:List Int) (s2:List Int):Nat→Int→Option (Int ⊕ Unit)
 |0,_=>none
 |m+1,i=>(if i<(s1.length:Int) then (if (0:Int)≤i∧i<(s1.length:Int) then (if (s2.length:Int)≤i then some (.inl 1) else (if (0:Int)≤i∧i<(s2.length:Int) then ((zd8 k (gx s1 i) (gx s2 i)).bind fun rint=>(if rint≠0 then some (.inl rint) else zay k s1 s2 m (IntKind.i64.wrap (i+1)))) else none)) else none) else some (.inr ()))
def zds (k:Nat) (s1:List Int) (s2:List Int):Option Int:=((zay k s1 s2 k 0:Option (Int ⊕ Unit)).bind fun o=>Sum.elim (fun r=>some r) (fun s_=>(if (s1.length:Int)<(s2.length:Int) then some (-1) else some 0)) o)
set_option maxHeartbeats 8000000 in
theorem zj5 (ax:Axs) (hx:zcs ax) (k:Nat) (s1:List Int) (s2:List Int) (v:Int) (H:zds k s1 s2=some v):Pure Tryz.prog (EE ax) [] 72 [ints s1,ints s2] (.int .i64 v):=by
 rw [zds] at H;refine en [.tmp 4] 36 [0,1] (hx.no _ (by decide)) (fn72 ax) ?_;intro h hh;repeat apply TW.seq
 refine rk [0,1] [] hh ?_;clear hh h;intro h hh;repeat apply TW.seq
 refine rk [0,1,9,10,11] [] hh ?_;clear hh h;intro h hh;obtain ⟨o,H1,H⟩:=zaf H;repeat apply TW.seq
 refine cu [0,1] 0 (fun h bs=>∃ s_:Unit,o=.inr s_∧(h 0=ints s1∧h 1=ints s2)∧bs=[]) ?_ ?_
 ·skip;repeat apply TW.seq
  apply TW.block;repeat apply TW.seq
  refine TW.loopT [0,1,9,10,11] (fun m h bs=>∃ (i:Int),zay k s1 s2 m i=some o∧(h 0=ints s1∧h 1=ints s2∧h 9=ints s1∧h 10=.int .i64 (s1.length:Int)∧h 11=.int .i64 i)∧bs=[]) ?_ k _ _ ?_;rotate_left
  ·exact ⟨0,H1,kq hh,rfl⟩
  clear hh h H1;rintro m h bs ⟨i,H1,hh,rfl⟩;rcases m with _|m
  ·rw [zay] at H1;cases H1
  rw [zay] at H1;repeat apply TW.seq
  refine rk [0,1,9,10,11,12] [] hh ?_;clear hh h;intro h hh;rcases isp H1 with ⟨c1,H1⟩|⟨c1,H1⟩;rotate_left
  ·skip;repeat apply TW.seq
   refine cf (f2 hh (decide_eq_false c1)) ?_;refine xk ?_;cases H1;exact ce hh ⟨_,rfl,kq hh,rfl⟩
  repeat apply TW.seq
  refine ct (f2 hh (decide_eq_true c1)) ?_;repeat apply TW.seq
  refine sk ?_;repeat apply TW.seq
  apply TW.block;obtain ⟨g2,H1⟩:=isg H1;repeat apply TW.seq
  refine rk [0,1,5,6,9,10,11] [] (f2 hh (zar g2)) ?_;clear hh h;intro h hh;repeat apply TW.seq
  refine rk [0,1,5,6,9,10,11,19] [] hh ?_;clear hh h;intro h hh;rcases isp H1 with ⟨c3,H1⟩|⟨c3,H1⟩;rotate_left
  ·skip;repeat apply TW.seq
   refine cf (f2 hh (decide_eq_false c3)) ?_;repeat apply TW.seq
   refine sk ?_;obtain ⟨g4,H1⟩:=isg H1;repeat apply TW.seq
   refine rk [0,1,6,7,9,10,11] [] (f2 hh (zar g4)) ?_;clear hh h;intro h hh;obtain ⟨rint,e5,H1⟩:=zaf H1;repeat apply TW.seq
   refine rkc [0,1,8,9,10,11] [] [(.int .i64 rint,stL [])] hh ?_ ?_
   ·exact ⟨za4.call ((zlw ax hx k (gx s1 i) (gx s2 i) rint e5 ).call _),trivial⟩
   clear hh h;intro h hh;repeat apply TW.seq
   refine rk [0,1,8,9,10,11,28] [] hh ?_;clear hh h;intro h hh;rcases isp H1 with ⟨c6,H1⟩|⟨c6,H1⟩;rotate_left
   ·skip;repeat apply TW.seq
    refine cf (f2 hh (decide_eq_false c6)) ?_;repeat apply TW.seq
    refine sk ?_;repeat apply TW.seq
    refine rk [0,1,9,10,11] [] hh ?_;clear hh h;intro h hh;exact rd m hh ⟨(IntKind.i64.wrap (i+1)),H1,kq hh,rfl⟩
   repeat apply TW.seq
   refine ct (f2 hh (decide_eq_true c6)) ?_;repeat apply TW.seq
   refine rk [4] [] hh ?_;clear hh h;intro h hh;cases H1;obtain rfl:=sinl H;exact rt hh
  repeat apply TW.seq
  refine ct (f2 hh (decide_eq_true c3)) ?_;repeat apply TW.seq
  refine rk [4] [] hh ?_;clear hh h;intro h hh;cases H1;obtain rfl:=sinl H;exact rt hh
 clear hh h;rintro h bs ⟨s_,rfl,hh,rfl⟩;replace H:=sinr H;repeat apply TW.seq
 refine rk [35] [] hh ?_;clear hh h;intro h hh;rcases isp H with ⟨c7,H⟩|⟨c7,H⟩;rotate_left
 ·skip;repeat apply TW.seq
  refine cf (f2 hh (decide_eq_false c7)) ?_;repeat apply TW.seq
  refine sk ?_;repeat apply TW.seq
  refine rk [4] [] hh ?_;clear hh h;intro h hh;cases H;exact rt hh
 repeat apply TW.seq
 refine ct (f2 hh (decide_eq_true c7)) ?_;repeat apply TW.seq
 refine rk [4] [] hh ?_;clear hh h;intro h hh;cases H;exact rt hh
def zc4 (k:Nat) (a:Ar 10) (b:Ar 10):Option Int:=((zds k a.l b.l).bind fun rint=>some rint)
set_option maxHeartbeats 8000000 in
theorem zke (ax:Axs) (hx:zcs ax) (k:Nat) (a:Ar 10) (b:Ar 10) (v:Int) (H:zc4 k a b=some v):Pure Tryz.prog (EE ax) [] 35 [.agg (a.l.map (T.int .i64)),.agg (b.l.map (T.int .i64))] (.int .i64 v):=by
 rw [zc4] at H;refine en [.tmp 4] 8 [0,1] (hx.no _ (by decide)) (fn35 ax) ?_;intro h hh;repeat apply TW.seq
 refine rk [2,3] [] hh ?_;clear hh h;intro h hh;obtain ⟨rint,e1,H⟩:=zaf H;repeat apply TW.seq
 refine dk 0 [4] [] [] [(.int .i64 rint,stL [.cells true 10 (a.l.map (T.int .i64)),.cells true 10 (b.l.map (T.int .i64))])] hh trivial ?_ ?_
 ·exact ⟨(by have q:=za4.call (Pure.lend (S:=stL [.cells true 10 (a.l.map (T.int .i64)),.cells true 10 (b.l.map (T.int .i64))]) (args:=[.arr 0 1 0 10 10 10,.arr 1 1 0 10 10 10]) (zj5 ax hx k a.l b.l rint e1 ) (And.intro (z3g (fun _=>rfl) (by rfl) (Ar.len a)) (And.intro (z3g (fun _=>rfl) (by rfl) (Ar.len b)) (trivial))) rfl);exact q),trivial⟩
 clear hh h;intro h hh;cases H;exact rt hh
end
section
open Go Go.RowKit
theorem yjp {k:Nat} (hk:9223372036854775808≤k) (n:Net) (hh:Held n):∃ b,((zmh k n 10 24 20).bind fun rFew=>(if rFew=true then ((zhi k n).bind fun rCheck=>some (decide (rCheck≠0))) else some true))=some b∧(b=false→zp4 n):=by
  unfold zmh;by_cases q1:(n.nodes.length:Int)≤10
  · rw [if_pos q1];by_cases q2:(n.links.length:Int)≤24
    · rw [if_pos q2,Option.bind_some];by_cases q3:(n.edges.length:Int)≤20
      · rw [if_pos (decide_eq_true q3)];obtain ⟨r1,h1,h2⟩:=ydw hk n (by omega) (by omega) (by omega) hh;rw [h1,Option.bind_some];exact ⟨_,rfl,fun h=>h2 (by simpa using h)⟩
      · rw [if_neg (by simpa using q3)];exact ⟨_,rfl,fun h=>by cases h⟩
    · rw [if_neg q2];exact ⟨_,rfl,fun h=>by cases h⟩
  · rw [if_neg q1];exact ⟨_,rfl,fun h=>by cases h⟩
theorem yh1 {t:List Rule} (h:fewT t 8=true):t.length≤8:=by
  unfold fewT at h;rw [Bool.and_eq_true] at h;have:=of_decide_eq_true h.2;omega
theorem z5i {k:Nat} (hk:big≤k) (n:Net) (hn:Held n) (ts:List (List Rule)) (hts:∀ t,t∈ts→z01 t) (h2:ts.length≤2) :
    ∃ b,zmo k n ts=some b∧(b=true→zp4 n∧(∀ t,t∈ts→t.length≤8∧(zuy n 1000 t).2=0)∧∃ F,Lit ts.flatten F):=by
  have key : ∀ m i, i ≤ ts.length → ts.length - i < m → (ts.take i).flatten.length ≤ 8 * i → (∀ t, t ∈ ts.take i → t.length ≤ 8 ∧ (zuy n 1000 t).2 = 0) →
      ∃ o,zd2 k n ts m (i:Int) (ts.take i).flatten (ts.take i).flatten.length=some o∧(o=.inl false∨(o=.inr (ts.flatten,ts.flatten.length)∧ts.flatten.length≤16∧∀ t,t∈ts→t.length≤8∧(zuy n 1000 t).2=0)):=by
    intro m
    induction m with
    |zero=>intro i h1 h2;omega
    |succ m ih =>
      intro i h1 hm hl hall;rw [zd2];by_cases c:i<ts.length
      · have hok:=hts _ (List.getElem_mem c);rw [if_pos (zav c),if_pos ⟨by omega,zav c⟩,zf4 c,yhg _ 8 hok hk,Option.bind_some,zce i (by omega)]
        cases hf:fewT ts[i] 8 with
        |false=>rw [if_neg (by simp)];exact ⟨_,rfl,.inl rfl⟩
        |true =>
          have h8:=yh1 hf;rw [if_pos rfl,z8f n 1000 _ hok hk,Option.bind_some];by_cases c2:(zuy n 1000 ts[i]).2=0
          · have hstep:(ts.take (i+1)).flatten=(ts.take i).flatten++ts[i]:=by
              rw [List.take_add_one,List.getElem?_eq_getElem c,Option.toList_some,List.flatten_append];simp
            have:=ih (i+1) (by omega) (by omega) (by rw [hstep,List.length_append];omega) (fun t ht=>by
              rw [List.take_add_one,List.getElem?_eq_getElem c,Option.toList_some] at ht;rcases List.mem_append.1 ht with x|x
              · exact hall t x
              · cases List.mem_singleton.1 x;exact ⟨h8,c2⟩)
            rw [hstep] at this;rw [if_neg (fun h=>h c2),if_pos (by omega)];by_cases cz:(ts[i]).length=0
            · rw [if_pos cz];have ez:=List.eq_nil_of_length_eq_zero cz;rw [ez,List.append_nil] at this;exact this
            · rw [if_neg cz];rw [List.length_append] at this;exact this
          · rw [if_pos c2];exact ⟨_,rfl,.inl rfl⟩
      · obtain rfl:i=ts.length:=by omega
        rw [if_neg (by omega)];rw [List.take_length] at hl hall ⊢;exact ⟨_,rfl,.inr ⟨rfl,by omega,hall⟩⟩
  obtain ⟨b0,e0,hb0⟩:=yjp hk n hn;unfold zmo;rw [e0,Option.bind_some]
  cases b0 with
  |true=>exact ⟨false,by rw [if_pos rfl],fun h=>by cases h⟩
  |false =>
    obtain ⟨o,e,ho⟩:=key k 0 (Nat.zero_le _) (by simp only [big] at hk;omega) (by simp) (fun t ht=>by simp at ht);rw [if_neg (by simp)];change zd2 k n ts k 0 [] 0=some o at e;rw [e,Option.bind_some];rcases ho with rfl|⟨rfl,h16,hall⟩
    · exact ⟨false,rfl,fun h=>by cases h⟩
    · obtain ⟨b,eb,hb⟩:=z8e (k:=k) (t:=ts.flatten) (by omega) hk;refine ⟨b,?_,fun h=>⟨hb0 rfl,hall,hb h⟩⟩;rw [Sum.elim_inr,if_pos rfl,eb];rfl
end
section
open Go Go.RowKit
def hR (k:Nat) (t:List Rule) (i:Nat):Ar 10×Bool:=(zsg k t (i:Int)).getD (zA 10,false)
def keepI (f:Nat→Bool) (i:Nat):List Int:=((List.range i).filter f).map fun j:Nat=>(j:Int)
def gone (k:Nat) (t:List Rule):List Int:=keepI (fun j=>!(hR k t j).2) t.length
theorem zoa {k:Nat} {a b:Ar 10} (ha:zac a=true) (hb:zac b=true) (hk:10<k):∃ c,zc4 k a b=some c∧Cmp a b c:=by
  have key:∀ m j,j≤10→10 - j<m→(∀ i,i<j→hw a i=hw b i)→∃ o,zay k a.l b.l m (j:Int)=some o∧((∃ c,o=.inl c∧Cmp a b c)∨(o=.inr ()∧a=b)):=by
    intro m
    induction m with
    |zero=>intro j h1 h2;omega
    |succ m ih =>
      intro j h1 h2 h3;rw [zay,a.h,b.h];by_cases c:j<10
      · obtain ⟨a1,a2⟩:=zb1 ha c;obtain ⟨b1,b2⟩:=zb1 hb c;rw [if_pos (by omega),if_pos ⟨by omega,by omega⟩,if_neg (by omega),if_pos ⟨by omega,by omega⟩,a1,b1,zce j (by omega)]
        have ec:zd8 k (hw a j:Int) (hw b j:Int)=some (if hw a j<hw b j then -1 else if hw b j<hw a j then 1 else 0):=by
          unfold zd8 zfe;simp only [Option.bind_some,ne_eq,not_true_eq_false,decide_false,Bool.false_eq_true,if_false];by_cases c1:hw a j<hw b j
          · rw [if_pos (zav c1),if_pos c1]
          · rw [if_neg (by omega),if_neg c1];by_cases c2:hw b j<hw a j
            · rw [if_pos (zav c2),if_pos c2]
            · rw [if_neg (by omega),if_neg c2]
        rw [ec,Option.bind_some];by_cases c1:hw a j<hw b j
        · rw [if_pos c1,if_pos (by decide)];exact ⟨_,rfl,.inl ⟨_,rfl,.inl ⟨rfl,zyp ha hb c h3 c1⟩⟩⟩
        · rw [if_neg c1];by_cases c2:hw b j<hw a j
          · rw [if_pos c2,if_pos (by decide)];exact ⟨_,rfl,.inl ⟨_,rfl,.inr (.inl ⟨rfl,zyp hb ha c (fun i hi=>(h3 i hi).symm) c2⟩)⟩⟩
          · rw [if_neg c2,if_neg (by decide)]
            exact ih (j+1) (by omega) (by omega) fun i hi=>by
              by_cases e:i<j
              · exact h3 i e
              · obtain rfl:i=j:=by omega
                omega
      · obtain rfl:j=10:=by omega
        rw [if_neg (by decide)];refine ⟨_,rfl,.inr ⟨rfl,z31 ha hb fun i hi=>?_⟩⟩;unfold hbit;rw [h3 (i / 16) (by omega)]
  obtain ⟨o,e,h⟩:=key k 0 (by omega) (by omega) (fun i hi=>by omega);unfold zc4 zds;rw [show ((0:Nat):Int)=0 from rfl] at e;rw [e,Option.bind_some];rcases h with ⟨c,rfl,h⟩|⟨rfl,h⟩
  · exact ⟨c,rfl,h⟩
  · rw [Sum.elim_inr,a.h,b.h,if_neg (by decide)];exact ⟨0,rfl,.inr (.inr ⟨rfl,h⟩)⟩
end
section
open Go Go.RowKit
set_option maxRecDepth 100000
set_option maxHeartbeats 4000000 in
theorem ztj (ax:Axs) (hx:NoAx ax) (l:List Rule) (hl:l.length*201≤1000000000):Call Tryz.prog (EE ax) [] 73 [zbd l] ts0 (.arr 0 23 0 l.length l.length (l.length*23)) (stL [.cells false (l.length*23) (vecC zaz l)]):=by
  refine Call.enter (fn:=Tryz.f73) 8 (hx.no _ (by decide)) (fn73 ax) rfl Tryz.ntmps73 (by decide) (by simp) (Nat.zero_le _) (by rfl) ?_;simp only [zky,znl,Nat.reduceAdd]
  cases l with
  |nil =>
    refine TW.lst0 0 23 (by omega) (by rfl) ?_ ?_
    · rw [zp7];repeat apply TW.seq
      apply TW.region (zfo ax) [] []
      · kernel_rfl
      · simp (disch:=first|omega|decide | (simp only [lzA,Nat.reduceAdd,Nat.reduceLT];done)|fail) only [b0,b1,b2,b3,b4,b5,b6,b7,b8,Nat.reduceAdd,Nat.reduceEqDiff,Nat.reduceMul,reduceIte,reduceCtorEq,eqA,eqB,eqsA,eqsB,ti28 ax,el28,sr28,tNil,tBin,zbq,zae,apA,tSrc,zas,zbk,zck,zga,zcd,List.replicate,List.flatten_nil,zeu,zcp,zet,zex,zcr,zew,Bool.or_true,Bool.true_or,Bool.false_or,Bool.or_self];with_reducible rfl
      · exact trivial
      simp only [onT,onTB];repeat apply TW.seq
      apply TW.region (zfo ax) [] []
      · kernel_rfl
      · simp (disch:=first|omega|decide | (simp only [lzA,Nat.reduceAdd,Nat.reduceLT];done)|fail) only [b0,b1,b2,b3,b4,b5,b6,b7,b8,Nat.reduceAdd,Nat.reduceEqDiff,Nat.reduceMul,reduceIte,reduceCtorEq,eqA,eqB,eqsA,eqsB,ti28 ax,el28,sr28,tNil,tBin,zbq,zae,apA,tSrc,zas,zbk,zck,zga,zcd,List.replicate,List.flatten_nil,zeu,zcp,zet,zex,zcr,zew,Bool.or_true,Bool.true_or,Bool.false_or,Bool.or_self];with_reducible rfl
      · exact trivial
      simp only [onT,onTB];repeat apply TW.seq
      refine TW.cond (b:=true) ?_ ?_
      · simp only [zna,zhe,zjr,zbo,Nat.reduceEqDiff,reduceIte,Bool.and_self]
      simp only [cond_true,cond_false];repeat apply TW.seq
      apply TW.region (zfo ax) [] []
      · kernel_rfl
      · simp (disch:=first|omega|decide | (simp only [lzA,Nat.reduceAdd,Nat.reduceLT];done)|fail) only [b0,b1,b2,b3,b4,b5,b6,b7,b8,Nat.reduceAdd,Nat.reduceEqDiff,Nat.reduceMul,reduceIte,reduceCtorEq,eqA,eqB,eqsA,eqsB,ti28 ax,el28,sr28,tNil,tBin,zbq,zae,apA,tSrc,zas,zbk,zck,zga,zcd,List.replicate,List.flatten_nil,zeu,zcp,zet,zex,zcr,zew,Bool.or_true,Bool.true_or,Bool.false_or,Bool.or_self];with_reducible rfl
      · exact trivial
      simp only [onT,onTB];refine TW.vec 2 23 (by first|rfl | (simp only [zbo,Nat.reduceEqDiff,reduceIte];done)) ?_;rw [z18];simp only [scB,Nat.reduceAdd];apply TW.ret;exact ⟨.inr rfl,_,rfl,_,zsp.refl _ _,zoc.one (by simp only [zbv,idsA,idsB,Bool.and_self])⟩
    · rw [zp7];repeat apply TW.seq
      apply TW.region (zfo ax) [] []
      · kernel_rfl
      · simp (disch:=first|omega|decide | (simp only [lzA,Nat.reduceAdd,Nat.reduceLT];done)|fail) only [b0,b1,b2,b3,b4,b5,b6,b7,b8,Nat.reduceAdd,Nat.reduceEqDiff,Nat.reduceMul,reduceIte,reduceCtorEq,eqA,eqB,eqsA,eqsB,ti28 ax,el28,sr28,tNil,tBin,zbq,zae,apA,tSrc,zas,zbk,zck,zga,zcd,List.replicate,List.flatten_nil,zeu,zcp,zet,zex,zcr,zew,Bool.or_true,Bool.true_or,Bool.false_or,Bool.or_self];with_reducible rfl
      · exact trivial
      simp only [onT,onTB];repeat apply TW.seq
      apply TW.region (zfo ax) [] []
      · kernel_rfl
      · simp (disch:=first|omega|decide | (simp only [lzA,Nat.reduceAdd,Nat.reduceLT];done)|fail) only [b0,b1,b2,b3,b4,b5,b6,b7,b8,Nat.reduceAdd,Nat.reduceEqDiff,Nat.reduceMul,reduceIte,reduceCtorEq,eqA,eqB,eqsA,eqsB,ti28 ax,el28,sr28,tNil,tBin,zbq,zae,apA,tSrc,zas,zbk,zck,zga,zcd,List.replicate,List.flatten_nil,zeu,zcp,zet,zex,zcr,zew,Bool.or_true,Bool.true_or,Bool.false_or,Bool.or_self];with_reducible rfl
      · exact trivial
      simp only [onT,onTB];repeat apply TW.seq
      refine TW.cond (b:=false) ?_ ?_
      · simp only [zna,zhe,zjr,zbo,Nat.reduceEqDiff,reduceIte,Bool.false_and,Bool.and_self]
      simp only [cond_true,cond_false];repeat apply TW.seq
      apply TW.skip;simp only [onT,onTB];repeat apply TW.seq
      apply TW.region (zfo ax) [5] []
      · kernel_rfl
      · simp (disch:=first|omega|decide | (simp only [lzA,Nat.reduceAdd,Nat.reduceLT];done)|fail) only [b0,b1,b2,b3,b4,b5,b6,b7,b8,Nat.reduceAdd,Nat.reduceEqDiff,Nat.reduceMul,reduceIte,reduceCtorEq,eqA,eqB,eqsA,eqsB,ti28 ax,el28,sr28,tNil,tBin,zbq,zae,apA,tSrc,zas,zbk,zck,zga,zcd,List.replicate,List.flatten_nil,zeu,zcp,zet,zex,zcr,zew,Bool.or_true,Bool.true_or,Bool.false_or,Bool.or_self];with_reducible rfl
      · exact trivial
      simp only [onT,onTB];refine TW.unz 0 (by rfl) ?_;rw [ziu _ _ _ (by simp only [lzA]<;>omega)];simp only [scA];apply TW.ret;exact ⟨.inr rfl,_,rfl,_,zsp.refl _ _,zoc.one (by simp only [zbv,idsA,idsB,Bool.and_self])⟩
  |cons x r =>
    have hn:∀ S:TS,tNil S (.slice 44) (T.lst 23 ((x :: r).map zaz))=some false:=fun _=>rfl;have hn0:∀ S:TS,tNil S (.slice 44) .nils=some true:=fun _=>rfl;have hb0:Nat.ble (x :: r).length 0=false:=rfl;have hb1:Nat.blt 0 (x :: r).length=true:=rfl;generalize x :: r=L at hl hn hb0 hb1 ⊢;rw [zp7];repeat apply TW.seq
    apply TW.region (zfo ax) [] []
    · kernel_rfl
    · simp (disch:=first|omega|decide | (simp only [lzA,Nat.reduceAdd,Nat.reduceLT];done)|fail) only [b0,b1,b2,b3,b4,b5,b6,b7,b8,Nat.reduceAdd,Nat.reduceEqDiff,Nat.reduceMul,reduceIte,reduceCtorEq,eqA,eqB,eqsA,eqsB,ti28 ax,el28,sr28,tBin,zbq,zae,apA,tSrc,zas,zbk,zck,zga,zcd,List.replicate,List.flatten_nil,zeu,zcp,zet,zex,zcr,zew,Bool.or_true,Bool.true_or,Bool.false_or,Bool.or_self,zhd zaz L,zey (f:=zaz) (e:=23) (fun x=>za6 x) L,zgq (f:=zaz) (fun x=>zhy x) L,hn,hn0,hb0,hb1,cond_true,cond_false];with_reducible rfl
    · exact trivial
    simp only [onT,onTB];repeat apply TW.seq
    apply TW.region (zfo ax) [] []
    · kernel_rfl
    · simp (disch:=first|omega|decide | (simp only [lzA,Nat.reduceAdd,Nat.reduceLT];done)|fail) only [b0,b1,b2,b3,b4,b5,b6,b7,b8,Nat.reduceAdd,Nat.reduceEqDiff,Nat.reduceMul,reduceIte,reduceCtorEq,eqA,eqB,eqsA,eqsB,ti28 ax,el28,sr28,tBin,zbq,zae,apA,tSrc,zas,zbk,zck,zga,zcd,List.replicate,List.flatten_nil,zeu,zcp,zet,zex,zcr,zew,Bool.or_true,Bool.true_or,Bool.false_or,Bool.or_self,zhd zaz L,zey (f:=zaz) (e:=23) (fun x=>za6 x) L,zgq (f:=zaz) (fun x=>zhy x) L,hn,hn0,hb0,hb1,cond_true,cond_false];with_reducible rfl
    · exact trivial
    simp only [onT,onTB];repeat apply TW.seq
    refine TW.cond (b:=false) ?_ ?_
    · simp only [zna,zhe,zjr,zbo,Nat.reduceEqDiff,reduceIte,Bool.false_and,Bool.and_self]
    simp only [cond_true,cond_false];repeat apply TW.seq
    apply TW.skip;simp only [onT,onTB];repeat apply TW.seq
    apply TW.region (zfo ax) [5] []
    · kernel_rfl
    · simp (disch:=first|omega|decide | (simp only [lzA,Nat.reduceAdd,Nat.reduceLT];done)|fail) only [b0,b1,b2,b3,b4,b5,b6,b7,b8,Nat.reduceAdd,Nat.reduceEqDiff,Nat.reduceMul,reduceIte,reduceCtorEq,eqA,eqB,eqsA,eqsB,ti28 ax,el28,sr28,tBin,zbq,zae,apA,tSrc,zas,zbk,zck,zga,zcd,List.replicate,List.flatten_nil,zeu,zcp,zet,zex,zcr,zew,Bool.or_true,Bool.true_or,Bool.false_or,Bool.or_self,zhd zaz L,zey (f:=zaz) (e:=23) (fun x=>za6 x) L,zgq (f:=zaz) (fun x=>zhy x) L,hn,hn0,hb0,hb1,cond_true,cond_false];with_reducible rfl
    · exact trivial
    simp only [onT,onTB];apply TW.ret;exact ⟨.inr rfl,_,rfl,_,zsp.refl _ _,zoc.one (by simp only [zbv,idsA,idsB,Bool.and_self])⟩
end
section
open Go Go.RowKit
set_option maxRecDepth 100000
def zat (k:Nat) (t:List Rule) (k_:Int):Nat→Int→(List Pat)→Option (List Pat)
 |0,_,_=>none
 |m+1,i,l=>(if i<(k_.toNat:Int) then (if (0:Int)≤i∧i<(t.length:Int) then (if (0:Int)≤i∧i<(k_.toNat:Int) then (if i.toNat<l.length then zat k t k_ m (IntKind.i64.wrap (i+1)) (l.set i.toNat ((gx t i).mat)) else none) else none) else none) else some l)
def zb7 (k:Nat) (t:List Rule) (k_:Int):Option (List Pat×Nat):=(if (0:Int)≤k_∧k_.toNat*161≤1000000000 then ((zat k t k_ k 0 (List.replicate k_.toNat (⟨(zA 10),(zA 10)⟩:Pat)):Option (List Pat)).bind fun s_=>some (s_,k_.toNat)) else none)
set_option maxHeartbeats 8000000 in
theorem zfr (ax:Axs) (hx:zcs ax) (k:Nat) (t:List Rule) (k_:Int) (v:List Pat×Nat) (H:zb7 k t k_=some v):Call Tryz.prog (EE ax) [] 68 [zbd t,.int .i64 k_] (stL []) (tupT [.arr 0 20 0 v.2 v.2 (v.2*20)]) (stL [.cells false (v.2*20) (vecC ePat v.1)]):=by
 rw [zb7] at H;refine enBr [.tmp 4] 24 [0,1] (hx.no _ (by decide)) (fn68 ax) ?_;intro h hh;repeat apply TW.seq
 refine rk [0,1] [] hh ?_;clear hh h;intro h hh;obtain ⟨g1,H⟩:=isg H;repeat apply TW.seq
 refine rk [0,5] [] (f3 hh (z2u (k_.toNat)) (f2 ((show (vecC ePat (List.replicate k_.toNat (⟨(zA 10),(zA 10)⟩:Pat))).length=k_.toNat*20 from by rw [zey (fun x=>zcu x),List.length_replicate])) (z58 ax))) ?_;clear hh h;intro h hh;repeat apply TW.seq
 refine rk [0,5,10,11] [] (f2 hh (znp ax)) ?_;clear hh h;intro h hh;obtain ⟨s_,H1,H⟩:=zaf H;repeat apply TW.seq
 refine cu [5] 1 (fun h bs=>(h 5=.arr 0 20 0 k_.toNat k_.toNat (k_.toNat*20))∧bs=[.cells true (k_.toNat*20) (vecC ePat s_)]) ?_ ?_
 ·skip;repeat apply TW.seq
  apply TW.block;repeat apply TW.seq
  refine TW.loopT [0,5,10,11] (fun m h bs=>∃ (i:Int) (l:List Pat),zat k t k_ m i l=some s_∧(h 0=zbd t∧h 5=.arr 0 20 0 k_.toNat k_.toNat (k_.toNat*20)∧h 10=.int .i64 (k_.toNat:Int)∧h 11=.int .i64 i)∧bs=[.cells true (k_.toNat*20) (vecC ePat l)]) ?_ k _ _ ?_;rotate_left
  ·exact ⟨0,(List.replicate k_.toNat (⟨(zA 10),(zA 10)⟩:Pat)),H1,kq hh,rfl⟩
  clear hh h H1;rintro m h bs ⟨i,l,H1,hh,rfl⟩;rcases m with _|m
  ·rw [zat] at H1;cases H1
  rw [zat] at H1;repeat apply TW.seq
  refine rk [0,5,10,11,12] [] hh ?_;clear hh h;intro h hh;rcases isp H1 with ⟨c2,H1⟩|⟨c2,H1⟩;rotate_left
  ·skip;repeat apply TW.seq
   refine cf (f2 hh (decide_eq_false c2)) ?_;refine xk ?_;cases H1;exact ce hh ⟨kq hh,rfl⟩
  repeat apply TW.seq
  refine ct (f2 hh (decide_eq_true c2)) ?_;repeat apply TW.seq
  refine sk ?_;repeat apply TW.seq
  apply TW.block;repeat apply TW.seq
  refine rk [0,5,6,10,11] [] hh ?_;clear hh h;intro h hh;obtain ⟨g3,H1⟩:=isg H1;obtain ⟨g4,H1⟩:=isg H1;obtain ⟨g5,H1⟩:=isg H1;repeat apply TW.seq
  refine rk [0,5,10,11] [] (f3 hh (zar g3) (f3 (show spl (vecC ePat l) (i.toNat*20) ((((gx t i).mat).mask).l.map (T.int .i64)++((((gx t i).mat).bits).l.map (T.int .i64)))=_ from zmc ePat 20 ((gx t i).mat) (fun x=>zcu x) g5) (znp ax) (z5a ax))) ?_;clear hh h;intro h hh;repeat apply TW.seq
  refine rk [0,5,10,11] [] hh ?_;clear hh h;intro h hh;exact rd m hh ⟨(IntKind.i64.wrap (i+1)),(l.set i.toNat ((gx t i).mat)),H1,kq hh,rfl⟩
 clear hh h;rintro h bs ⟨hh,rfl⟩;repeat apply TW.seq
 refine rk [4] [] hh ?_;clear hh h;intro h hh;refine uz 0 ?_;cases H;exact rtB hh
def zd7 (k:Nat) (h_:Ar 10) (x0:Bool) (x1:Ar 10):Option (Bool×Ar 10):=(if x0=true then ((zc4 k h_ x1).bind fun rCompareHeads=>(if rCompareHeads<0 then some (true,h_) else some (true,x1))) else some (true,h_))
set_option maxHeartbeats 8000000 in
theorem zlr (ax:Axs) (hx:zcs ax) (k:Nat) (h_:Ar 10) (x0:Bool) (x1:Ar 10) (v:Bool×Ar 10) (H:zd7 k h_ x0 x1=some v):Call Tryz.prog (EE ax) [] 74 [.agg (h_.l.map (T.int .i64)),.ptr 0 0 1,.ptr 1 0 10] (stL [.cells true 1 [.bool x0],.cells true 10 (x1.l.map (T.int .i64))]) (tupT []) (stL [.cells true 1 [.bool v.1],.cells true 10 (v.2.l.map (T.int .i64))]):=by
 rw [zd7] at H;refine enB [] 13 [0,1,2] (hx.no _ (by decide)) (fn74 ax) ?_;intro h hh;repeat apply TW.seq
 refine rk [1,2,3] [] hh ?_;clear hh h;intro h hh;rcases isb H with ⟨c1,H⟩|⟨c1,H⟩;rotate_left
 ·skip;repeat apply TW.seq
  refine rk [1,2,3,11] [] (f2 hh c1) ?_;clear hh h;intro h hh;repeat apply TW.seq
  refine ct hh ?_;repeat apply TW.seq
  refine rk [] [] (f2 hh c1) ?_;clear hh h;intro h hh;cases H;exact rnB hh
 obtain ⟨rCompareHeads,e2,H⟩:=zaf H;repeat apply TW.seq
 refine rkc [1,2,3,11] [] [(.int .i64 rCompareHeads,stL [.cells true 1 [.bool x0],.cells true 10 (x1.l.map (T.int .i64)),.cells true 10 (h_.l.map (T.int .i64))])] (f2 hh c1) ?_ ?_
 ·exact ⟨za4.call (Pure.clr (zke ax hx k h_ x1 rCompareHeads e2 ) (by first|rfl|simp only [c1])),trivial⟩
 clear hh h;intro h hh;rcases isp H with ⟨c3,H⟩|⟨c3,H⟩;rotate_left
 ·skip;repeat apply TW.seq
  refine cf (f2 hh (decide_eq_false c3)) ?_;repeat apply TW.seq
  refine sk ?_;cases H;exact rnB hh
 repeat apply TW.seq
 refine ct (f2 hh (decide_eq_true c3)) ?_;repeat apply TW.seq
 refine rk [] [] (f2 hh c1) ?_;clear hh h;intro h hh;cases H;exact rnB hh
def za3 (k:Nat) (t:List Rule) (u:List Rule) (i:Int):Nat→Int→(Ar 10)→Bool→Option (Ar 10×Bool)
 |0,_,_,_=>none
 |m+1,i2,x3,x4=>(if i2<((u++[(⟨0,(⟨(zA 10),(zA 10)⟩:Pat),(-1),[]⟩:Rule)]).length:Int) then (if (0:Int)≤i2∧i2<((u++[(⟨0,(⟨(zA 10),(zA 10)⟩:Pat),(-1),[]⟩:Rule)]).length:Int) then ((zgt k (⟨(gx (t++[(⟨0,(⟨(zA 10),(zA 10)⟩:Pat),(-1),[]⟩:Rule)]) i).prio,((gx (t++[(⟨0,(⟨(zA 10),(zA 10)⟩:Pat),(-1),[]⟩:Rule)]) i).mat),(gx (t++[(⟨0,(⟨(zA 10),(zA 10)⟩:Pat),(-1),[]⟩:Rule)]) i).step,(gx (t++[(⟨0,(⟨(zA 10),(zA 10)⟩:Pat),(-1),[]⟩:Rule)]) i).outs⟩:Rule) (⟨(gx (u++[(⟨0,(⟨(zA 10),(zA 10)⟩:Pat),(-1),[]⟩:Rule)]) i2).prio,((gx (u++[(⟨0,(⟨(zA 10),(zA 10)⟩:Pat),(-1),[]⟩:Rule)]) i2).mat),(gx (u++[(⟨0,(⟨(zA 10),(zA 10)⟩:Pat),(-1),[]⟩:Rule)]) i2).step,(gx (u++[(⟨0,(⟨(zA 10),(zA 10)⟩:Pat),(-1),[]⟩:Rule)]) i2).outs⟩:Rule)).bind fun ralike=>(if ralike=true then za3 k t u i m (IntKind.i64.wrap (i2+1)) x3 x4 else ((zi3 k ((gx (t++[(⟨0,(⟨(zA 10),(zA 10)⟩:Pat),(-1),[]⟩:Rule)]) i).mat) ((gx (u++[(⟨0,(⟨(zA 10),(zA 10)⟩:Pat),(-1),[]⟩:Rule)]) i2).mat)).bind fun rAnd=>(if rAnd.2=true then ((((zb7 k (t++[(⟨0,(⟨(zA 10),(zA 10)⟩:Pat),(-1),[]⟩:Rule)]) i).bind fun rb=>((zb2 k (u++[(⟨0,(⟨(zA 10),(zA 10)⟩:Pat),(-1),[]⟩:Rule)]) i2).bind fun rbefore=>(if (rb.2+rbefore.length)*161≤1000000000 then (if rbefore.length=0 then (if rb.1.length=rb.2 then ((zc3 k rAnd.1 rb.1).bind fun rOutside=>some (rOutside.2,rb.1,rb.2,rOutside.1)) else none) else (if (rb.1++rbefore).length=rb.2+rbefore.length then ((zc3 k rAnd.1 (rb.1++rbefore)).bind fun rOutside2=>some (rOutside2.2,rb.1++rbefore,rb.2+rbefore.length,rOutside2.1)) else none)) else none))):Option (Bool×List Pat×Nat×Ar 10)).bind fun s_4=>(if s_4.1=true then ((zd7 k s_4.2.2.2 x4 x3).bind fun rb2=>za3 k t u i m (IntKind.i64.wrap (i2+1)) rb2.2 rb2.1) else za3 k t u i m (IntKind.i64.wrap (i2+1)) x3 x4)) else za3 k t u i m (IntKind.i64.wrap (i2+1)) x3 x4)))) else none) else some (x3,x4))
def zb8 (k:Nat) (t:List Rule) (u:List Rule):Nat→Int→(Ar 10)→Bool→Option (Ar 10×Bool)
 |0,_,_,_=>none
 |m+1,i,x,x2=>(if i<((t++[(⟨0,(⟨(zA 10),(zA 10)⟩:Pat),(-1),[]⟩:Rule)]).length:Int) then (((if (0:Int)≤i∧i<((t++[(⟨0,(⟨(zA 10),(zA 10)⟩:Pat),(-1),[]⟩:Rule)]).length:Int) then ((za3 k t u i k 0 x x2:Option (Ar 10×Bool)).bind fun s_3=>some (s_3.1,s_3.2)) else none):Option (Ar 10×Bool)).bind fun s_2=>zb8 k t u m (IntKind.i64.wrap (i+1)) s_2.1 s_2.2) else some (x,x2))
def zgu (k:Nat) (t:List Rule) (u:List Rule):Option (Ar 10×Bool):=(if t.length*201≤1000000000 then (if (t.length+1)*201≤1000000000 then (if u.length*201≤1000000000 then (if (u.length+1)*201≤1000000000 then (if (t++[(⟨0,(⟨(zA 10),(zA 10)⟩:Pat),(-1),[]⟩:Rule)]).length=t.length+1 then (if (u++[(⟨0,(⟨(zA 10),(zA 10)⟩:Pat),(-1),[]⟩:Rule)]).length=u.length+1 then ((zb8 k t u k 0 (zA 10) false:Option (Ar 10×Bool)).bind fun s_=>some (s_.1,(!s_.2))) else none) else none) else none) else none) else none) else none)
set_option maxHeartbeats 8000000 in
theorem zqd (ax:Axs) (hx:zcs ax) (k:Nat) (t:List Rule) (u:List Rule) (v:Ar 10×Bool) (H:zgu k t u=some v):Pure Tryz.prog (EE ax) [] 36 [zbd t,zbd u] (tupT [.agg (v.1.l.map (T.int .i64)),.bool v.2]):=by
 rw [zgu] at H;refine enN [.cell 4 39,.tmp 5] 85 [0,1] (hx.no _ (by decide)) (fn36 ax) ?_;intro h hh;repeat apply TW.seq
 refine rk [0,1,4] [] hh ?_;clear hh h;intro h hh;repeat apply TW.seq
 refine rk [0,1,4,6] [] hh ?_;clear hh h;intro h hh;refine nz 1 22 1 ?_;refine zk 6 1 23 true (T.int .i64 0 :: ((zA 10).l.map (T.int .i64)++((zA 10).l.map (T.int .i64)++[T.int .i64 (-1),zbz []]))) [0,1,4,6] hh ?_;clear hh h;intro h hh;obtain ⟨g1,H⟩:=isg H;obtain ⟨g2,H⟩:=isg H;obtain ⟨g3,H⟩:=isg H;obtain ⟨g4,H⟩:=isg H;repeat apply TW.seq
 refine dcg 1 [6] [] [] [(.arr 2 23 0 t.length t.length (t.length*23),stL [.cells true 10 ((zA 10).l.map (T.int .i64)),.gone,.cells false (t.length*23) (vecC zaz t)]),(.arr 3 23 0 u.length u.length (u.length*23),stL [.cells true 10 ((zA 10).l.map (T.int .i64)),.gone,.cells false ((t.length+1)*23) (vecC zaz (t++[(⟨0,(⟨(zA 10),(zA 10)⟩:Pat),(-1),[]⟩:Rule)])),.cells false (u.length*23) (vecC zaz u)])] [.cells true 10 ((zA 10).l.map (T.int .i64)),.gone,.cells false ((t.length+1)*23) (vecC zaz (t++[(⟨0,(⟨(zA 10),(zA 10)⟩:Pat),(-1),[]⟩:Rule)])),.cells false ((u.length+1)*23) (vecC zaz (u++[(⟨0,(⟨(zA 10),(zA 10)⟩:Pat),(-1),[]⟩:Rule)]))] (fun h=>h 4=.ptr 0 0 10∧h 7=.arr 2 23 0 (t.length+1) (t.length+1) ((t.length+1)*23)∧h 8=.arr 3 23 0 (u.length+1) (u.length+1) ((u.length+1)*23)) (f3 hh ((show vecC zaz [(⟨0,(⟨(zA 10),(zA 10)⟩:Pat),(-1),[]⟩:Rule)]=(T.int .i64 ((⟨0,(⟨(zA 10),(zA 10)⟩:Pat),(-1),[]⟩:Rule).prio) :: ((((⟨0,(⟨(zA 10),(zA 10)⟩:Pat),(-1),[]⟩:Rule).mat).mask).l.map (T.int .i64)++((((⟨0,(⟨(zA 10),(zA 10)⟩:Pat),(-1),[]⟩:Rule).mat).bits).l.map (T.int .i64)++[T.int .i64 ((⟨0,(⟨(zA 10),(zA 10)⟩:Pat),(-1),[]⟩:Rule).step),zbz ((⟨0,(⟨(zA 10),(zA 10)⟩:Pat),(-1),[]⟩:Rule).outs)]))) from zmd.trans rfl)) (f2 (el28 ax) (sr28 ax))) trivial ?_ ?_
 ·exact ⟨(by have q:=Call.fresh (ztj ax hx t g1) (by simp only [zbv,idsA,idsB,Bool.and_self]) (by simp only [zbv,idsA,idsB,Bool.and_self]) [.cells true 10 ((zA 10).l.map (T.int .i64)),.gone];first|exact q | (simp only [Nat.add_mul,Nat.one_mul,zbn,(show vecC zaz [(⟨0,(⟨(zA 10),(zA 10)⟩:Pat),(-1),[]⟩:Rule)]=(T.int .i64 ((⟨0,(⟨(zA 10),(zA 10)⟩:Pat),(-1),[]⟩:Rule).prio) :: ((((⟨0,(⟨(zA 10),(zA 10)⟩:Pat),(-1),[]⟩:Rule).mat).mask).l.map (T.int .i64)++((((⟨0,(⟨(zA 10),(zA 10)⟩:Pat),(-1),[]⟩:Rule).mat).bits).l.map (T.int .i64)++[T.int .i64 ((⟨0,(⟨(zA 10),(zA 10)⟩:Pat),(-1),[]⟩:Rule).step),zbz ((⟨0,(⟨(zA 10),(zA 10)⟩:Pat),(-1),[]⟩:Rule).outs)]))) from zmd.trans rfl)] at q ⊢;exact q)),(by have q:=Call.fresh (ztj ax hx u g3) (by simp only [zbv,idsA,idsB,Bool.and_self]) (by simp only [zbv,idsA,idsB,Bool.and_self]) [.cells true 10 ((zA 10).l.map (T.int .i64)),.gone,.cells false ((t.length+1)*23) (vecC zaz (t++[(⟨0,(⟨(zA 10),(zA 10)⟩:Pat),(-1),[]⟩:Rule)]))];first|exact q | (simp only [Nat.add_mul,Nat.one_mul,zbn,(show vecC zaz [(⟨0,(⟨(zA 10),(zA 10)⟩:Pat),(-1),[]⟩:Rule)]=(T.int .i64 ((⟨0,(⟨(zA 10),(zA 10)⟩:Pat),(-1),[]⟩:Rule).prio) :: ((((⟨0,(⟨(zA 10),(zA 10)⟩:Pat),(-1),[]⟩:Rule).mat).mask).l.map (T.int .i64)++((((⟨0,(⟨(zA 10),(zA 10)⟩:Pat),(-1),[]⟩:Rule).mat).bits).l.map (T.int .i64)++[T.int .i64 ((⟨0,(⟨(zA 10),(zA 10)⟩:Pat),(-1),[]⟩:Rule).step),zbz ((⟨0,(⟨(zA 10),(zA 10)⟩:Pat),(-1),[]⟩:Rule).outs)]))) from zmd.trans rfl)] at q ⊢;exact q)),trivial⟩
 clear hh h;intro h hh;obtain ⟨g5,H⟩:=isg H;repeat apply TW.seq
 refine TW.freeze 7 (b:=2) (e:=23) (off:=0) (len:=(t.length+1)) (cap:=(t.length+1)) (M:=((t.length+1)*23)) ((t++[(⟨0,(⟨(zA 10),(zA 10)⟩:Pat),(-1),[]⟩:Rule)]).map zaz) (kq hh) (by rfl) (by omega) (by omega) (by rw [List.drop_zero];exact zir (e:=23) (fun x=>za6 x) g5) (fun t ht=>by obtain ⟨x,_,rfl⟩:=List.mem_map.1 ht;first|rfl|exact zl2 _|exact zcu _|exact zjw _|exact za6 _ | (rw [List.length_map];rfl)) (by rw [List.length_map];exact g5) (by omega) ?_;rw [ziu _ _ _ (by simp only [lzA]<;>omega)];simp only [scA];refine gk [4,7,8] hh ?_;clear hh h;intro h hh;obtain ⟨g6,H⟩:=isg H;repeat apply TW.seq
 refine TW.freeze 8 (b:=3) (e:=23) (off:=0) (len:=(u.length+1)) (cap:=(u.length+1)) (M:=((u.length+1)*23)) ((u++[(⟨0,(⟨(zA 10),(zA 10)⟩:Pat),(-1),[]⟩:Rule)]).map zaz) (kq hh) (by rfl) (by omega) (by omega) (by rw [List.drop_zero];exact zir (e:=23) (fun x=>za6 x) g6) (fun t ht=>by obtain ⟨x,_,rfl⟩:=List.mem_map.1 ht;first|rfl|exact zl2 _|exact zcu _|exact zjw _|exact za6 _ | (rw [List.length_map];rfl)) (by rw [List.length_map];exact g6) (by omega) ?_;rw [ziu _ _ _ (by simp only [lzA]<;>omega)];simp only [scA];refine gk [4,7,8] hh ?_;clear hh h;intro h hh;repeat apply TW.seq
 refine rk [4,7,8,9] [] hh ?_;clear hh h;intro h hh;repeat apply TW.seq
 refine rk [4,7,8,9,10] [] hh ?_;clear hh h;intro h hh;repeat apply TW.seq
 refine rk [4,7,8,9,10,11] [] hh ?_;clear hh h;intro h hh;repeat apply TW.seq
 refine rk [4,7,8,9,10,11,12,13] [] hh ?_;clear hh h;intro h hh;repeat apply TW.seq
 refine rk [4,8,9,10,11,12,13,38,39,40] [] (f2 hh (z5a ax)) ?_;clear hh h;intro h hh;obtain ⟨s_,H1,H⟩:=zaf H;repeat apply TW.seq
 refine cu [4,9,10] 6 (fun h bs=>(h 4=.ptr 0 0 10∧h 9=.ptr 4 0 10∧h 10=.ptr 5 0 1)∧bs=[.cells true 10 ((zA 10).l.map (T.int .i64)),.gone,.gone,.gone,.cells true 10 (s_.1.l.map (T.int .i64)),.cells true 1 [.bool s_.2]]) ?_ ?_
 ·skip;repeat apply TW.seq
  apply TW.block;repeat apply TW.seq
  refine TW.loopT [4,8,9,10,11,12,13,38,39,40] (fun m h bs=>∃ (i:Int) (x:Ar 10) (x2:Bool),zb8 k t u m i x x2=some s_∧(h 4=.ptr 0 0 10∧h 8=zbd (u++[(⟨0,(⟨(zA 10),(zA 10)⟩:Pat),(-1),[]⟩:Rule)])∧h 9=.ptr 4 0 10∧h 10=.ptr 5 0 1∧h 11=.fn 74 [] [.ptr 5 0 1,.ptr 4 0 10]∧h 12=.fn 68 [zbd (t++[(⟨0,(⟨(zA 10),(zA 10)⟩:Pat),(-1),[]⟩:Rule)])] []∧h 13=.fn 68 [zbd (u++[(⟨0,(⟨(zA 10),(zA 10)⟩:Pat),(-1),[]⟩:Rule)])] []∧h 38=zbd (t++[(⟨0,(⟨(zA 10),(zA 10)⟩:Pat),(-1),[]⟩:Rule)])∧h 39=.int .i64 ((t++[(⟨0,(⟨(zA 10),(zA 10)⟩:Pat),(-1),[]⟩:Rule)]).length:Int)∧h 40=.int .i64 i)∧bs=[.cells true 10 ((zA 10).l.map (T.int .i64)),.gone,.gone,.gone,.cells true 10 (x.l.map (T.int .i64)),.cells true 1 [.bool x2]]) ?_ k _ _ ?_;rotate_left
  ·exact ⟨0,(zA 10),false,H1,kq hh,rfl⟩
  clear hh h H1;rintro m h bs ⟨i,x,x2,H1,hh,rfl⟩;rcases m with _|m
  ·rw [zb8] at H1;cases H1
  rw [zb8] at H1;repeat apply TW.seq
  refine rk [4,8,9,10,11,12,13,38,39,40,41] [] hh ?_;clear hh h;intro h hh;rcases isp H1 with ⟨c7,H1⟩|⟨c7,H1⟩;rotate_left
  ·skip;repeat apply TW.seq
   refine cf (f2 hh (decide_eq_false c7)) ?_;refine xk ?_;cases H1;exact ce hh ⟨kq hh,rfl⟩
  repeat apply TW.seq
  refine ct (f2 hh (decide_eq_true c7)) ?_;repeat apply TW.seq
  refine sk ?_;obtain ⟨s_2,H2,H1⟩:=zaf H1;repeat apply TW.seq
  refine cu [4,8,9,10,11,12,13,38,39,40] 6 (fun h bs=>(h 4=.ptr 0 0 10∧h 8=zbd (u++[(⟨0,(⟨(zA 10),(zA 10)⟩:Pat),(-1),[]⟩:Rule)])∧h 9=.ptr 4 0 10∧h 10=.ptr 5 0 1∧h 11=.fn 74 [] [.ptr 5 0 1,.ptr 4 0 10]∧h 12=.fn 68 [zbd (t++[(⟨0,(⟨(zA 10),(zA 10)⟩:Pat),(-1),[]⟩:Rule)])] []∧h 13=.fn 68 [zbd (u++[(⟨0,(⟨(zA 10),(zA 10)⟩:Pat),(-1),[]⟩:Rule)])] []∧h 38=zbd (t++[(⟨0,(⟨(zA 10),(zA 10)⟩:Pat),(-1),[]⟩:Rule)])∧h 39=.int .i64 ((t++[(⟨0,(⟨(zA 10),(zA 10)⟩:Pat),(-1),[]⟩:Rule)]).length:Int)∧h 40=.int .i64 i)∧bs=[.cells true 10 ((zA 10).l.map (T.int .i64)),.gone,.gone,.gone,.cells true 10 (s_2.1.l.map (T.int .i64)),.cells true 1 [.bool s_2.2]]) ?_ ?_
  ·skip;repeat apply TW.seq
   apply TW.block;obtain ⟨g8,H2⟩:=isg H2;repeat apply TW.seq
   refine rk [4,8,9,10,11,12,13,14,15,38,39,40] [] (f3 hh (zar g8) (z5a ax)) ?_;clear hh h;intro h hh;repeat apply TW.seq
   refine rk [4,8,9,10,11,12,13,14,15,38,39,40,45,46,47] [] (f2 hh (z5a ax)) ?_;clear hh h;intro h hh;obtain ⟨s_3,H3,H2⟩:=zaf H2;repeat apply TW.seq
   refine cu [4,8,9,10,11,12,13,38,39,40] 7 (fun h bs=>(h 4=.ptr 0 0 10∧h 8=zbd (u++[(⟨0,(⟨(zA 10),(zA 10)⟩:Pat),(-1),[]⟩:Rule)])∧h 9=.ptr 4 0 10∧h 10=.ptr 5 0 1∧h 11=.fn 74 [] [.ptr 5 0 1,.ptr 4 0 10]∧h 12=.fn 68 [zbd (t++[(⟨0,(⟨(zA 10),(zA 10)⟩:Pat),(-1),[]⟩:Rule)])] []∧h 13=.fn 68 [zbd (u++[(⟨0,(⟨(zA 10),(zA 10)⟩:Pat),(-1),[]⟩:Rule)])] []∧h 38=zbd (t++[(⟨0,(⟨(zA 10),(zA 10)⟩:Pat),(-1),[]⟩:Rule)])∧h 39=.int .i64 ((t++[(⟨0,(⟨(zA 10),(zA 10)⟩:Pat),(-1),[]⟩:Rule)]).length:Int)∧h 40=.int .i64 i)∧bs=[.cells true 10 ((zA 10).l.map (T.int .i64)),.gone,.gone,.gone,.cells true 10 (s_3.1.l.map (T.int .i64)),.cells true 1 [.bool s_3.2],.cells true 23 (T.int .i64 ((gx (t++[(⟨0,(⟨(zA 10),(zA 10)⟩:Pat),(-1),[]⟩:Rule)]) i).prio) :: ((((gx (t++[(⟨0,(⟨(zA 10),(zA 10)⟩:Pat),(-1),[]⟩:Rule)]) i).mat).mask).l.map (T.int .i64)++((((gx (t++[(⟨0,(⟨(zA 10),(zA 10)⟩:Pat),(-1),[]⟩:Rule)]) i).mat).bits).l.map (T.int .i64)++[T.int .i64 ((gx (t++[(⟨0,(⟨(zA 10),(zA 10)⟩:Pat),(-1),[]⟩:Rule)]) i).step),zbz ((gx (t++[(⟨0,(⟨(zA 10),(zA 10)⟩:Pat),(-1),[]⟩:Rule)]) i).outs)])))]) ?_ ?_
   ·skip;repeat apply TW.seq
    apply TW.block;repeat apply TW.seq
    refine TW.loopT [4,8,9,10,11,12,13,14,15,38,39,40,45,46,47] (fun m h bs=>∃ (i2:Int) (x3:Ar 10) (x4:Bool),za3 k t u i m i2 x3 x4=some s_3∧(h 4=.ptr 0 0 10∧h 8=zbd (u++[(⟨0,(⟨(zA 10),(zA 10)⟩:Pat),(-1),[]⟩:Rule)])∧h 9=.ptr 4 0 10∧h 10=.ptr 5 0 1∧h 11=.fn 74 [] [.ptr 5 0 1,.ptr 4 0 10]∧h 12=.fn 68 [zbd (t++[(⟨0,(⟨(zA 10),(zA 10)⟩:Pat),(-1),[]⟩:Rule)])] []∧h 13=.fn 68 [zbd (u++[(⟨0,(⟨(zA 10),(zA 10)⟩:Pat),(-1),[]⟩:Rule)])] []∧h 14=.int .i64 i∧h 15=.ptr 6 0 23∧h 38=zbd (t++[(⟨0,(⟨(zA 10),(zA 10)⟩:Pat),(-1),[]⟩:Rule)])∧h 39=.int .i64 ((t++[(⟨0,(⟨(zA 10),(zA 10)⟩:Pat),(-1),[]⟩:Rule)]).length:Int)∧h 40=.int .i64 i∧h 45=zbd (u++[(⟨0,(⟨(zA 10),(zA 10)⟩:Pat),(-1),[]⟩:Rule)])∧h 46=.int .i64 ((u++[(⟨0,(⟨(zA 10),(zA 10)⟩:Pat),(-1),[]⟩:Rule)]).length:Int)∧h 47=.int .i64 i2)∧bs=[.cells true 10 ((zA 10).l.map (T.int .i64)),.gone,.gone,.gone,.cells true 10 (x3.l.map (T.int .i64)),.cells true 1 [.bool x4],.cells true 23 (T.int .i64 ((gx (t++[(⟨0,(⟨(zA 10),(zA 10)⟩:Pat),(-1),[]⟩:Rule)]) i).prio) :: ((((gx (t++[(⟨0,(⟨(zA 10),(zA 10)⟩:Pat),(-1),[]⟩:Rule)]) i).mat).mask).l.map (T.int .i64)++((((gx (t++[(⟨0,(⟨(zA 10),(zA 10)⟩:Pat),(-1),[]⟩:Rule)]) i).mat).bits).l.map (T.int .i64)++[T.int .i64 ((gx (t++[(⟨0,(⟨(zA 10),(zA 10)⟩:Pat),(-1),[]⟩:Rule)]) i).step),zbz ((gx (t++[(⟨0,(⟨(zA 10),(zA 10)⟩:Pat),(-1),[]⟩:Rule)]) i).outs)])))]) ?_ k _ _ ?_;rotate_left
    ·exact ⟨0,x,x2,H3,kq hh,rfl⟩
    clear hh h H3;rintro m h bs ⟨i2,x3,x4,H3,hh,rfl⟩;rcases m with _|m
    ·rw [za3] at H3;cases H3
    rw [za3] at H3;repeat apply TW.seq
    refine rk [4,8,9,10,11,12,13,14,15,38,39,40,45,46,47,48] [] hh ?_;clear hh h;intro h hh;rcases isp H3 with ⟨c9,H3⟩|⟨c9,H3⟩;rotate_left
    ·skip;repeat apply TW.seq
     refine cf (f2 hh (decide_eq_false c9)) ?_;refine xk ?_;cases H3;exact ce hh ⟨kq hh,rfl⟩
    repeat apply TW.seq
    refine ct (f2 hh (decide_eq_true c9)) ?_;repeat apply TW.seq
    refine sk ?_;repeat apply TW.seq
    apply TW.block;obtain ⟨g10,H3⟩:=isg H3;repeat apply TW.seq
    refine rk [4,8,9,10,11,12,13,14,15,16,17,38,39,40,45,46,47] [] (f3 hh (zar g10) (z5a ax)) ?_;clear hh h;intro h hh;obtain ⟨ralike,e11,H3⟩:=zaf H3;repeat apply TW.seq
    refine rkc [4,8,9,10,11,12,13,14,15,16,17,38,39,40,45,46,47,54] [] [(.bool ralike,stL [.cells true 10 ((zA 10).l.map (T.int .i64)),.gone,.gone,.gone,.cells true 10 (x3.l.map (T.int .i64)),.cells true 1 [.bool x4],.cells true 23 (T.int .i64 ((gx (t++[(⟨0,(⟨(zA 10),(zA 10)⟩:Pat),(-1),[]⟩:Rule)]) i).prio) :: ((((gx (t++[(⟨0,(⟨(zA 10),(zA 10)⟩:Pat),(-1),[]⟩:Rule)]) i).mat).mask).l.map (T.int .i64)++((((gx (t++[(⟨0,(⟨(zA 10),(zA 10)⟩:Pat),(-1),[]⟩:Rule)]) i).mat).bits).l.map (T.int .i64)++[T.int .i64 ((gx (t++[(⟨0,(⟨(zA 10),(zA 10)⟩:Pat),(-1),[]⟩:Rule)]) i).step),zbz ((gx (t++[(⟨0,(⟨(zA 10),(zA 10)⟩:Pat),(-1),[]⟩:Rule)]) i).outs)]))),.cells true 23 (T.int .i64 ((gx (u++[(⟨0,(⟨(zA 10),(zA 10)⟩:Pat),(-1),[]⟩:Rule)]) i2).prio) :: ((((gx (u++[(⟨0,(⟨(zA 10),(zA 10)⟩:Pat),(-1),[]⟩:Rule)]) i2).mat).mask).l.map (T.int .i64)++((((gx (u++[(⟨0,(⟨(zA 10),(zA 10)⟩:Pat),(-1),[]⟩:Rule)]) i2).mat).bits).l.map (T.int .i64)++[T.int .i64 ((gx (u++[(⟨0,(⟨(zA 10),(zA 10)⟩:Pat),(-1),[]⟩:Rule)]) i2).step),zbz ((gx (u++[(⟨0,(⟨(zA 10),(zA 10)⟩:Pat),(-1),[]⟩:Rule)]) i2).outs)])))])] hh ?_ ?_
    ·exact ⟨za4.call ((zqc ax hx k (⟨(gx (t++[(⟨0,(⟨(zA 10),(zA 10)⟩:Pat),(-1),[]⟩:Rule)]) i).prio,((gx (t++[(⟨0,(⟨(zA 10),(zA 10)⟩:Pat),(-1),[]⟩:Rule)]) i).mat),(gx (t++[(⟨0,(⟨(zA 10),(zA 10)⟩:Pat),(-1),[]⟩:Rule)]) i).step,(gx (t++[(⟨0,(⟨(zA 10),(zA 10)⟩:Pat),(-1),[]⟩:Rule)]) i).outs⟩:Rule) (⟨(gx (u++[(⟨0,(⟨(zA 10),(zA 10)⟩:Pat),(-1),[]⟩:Rule)]) i2).prio,((gx (u++[(⟨0,(⟨(zA 10),(zA 10)⟩:Pat),(-1),[]⟩:Rule)]) i2).mat),(gx (u++[(⟨0,(⟨(zA 10),(zA 10)⟩:Pat),(-1),[]⟩:Rule)]) i2).step,(gx (u++[(⟨0,(⟨(zA 10),(zA 10)⟩:Pat),(-1),[]⟩:Rule)]) i2).outs⟩:Rule) ralike e11 ).call _),trivial⟩
    clear hh h;intro h hh;rcases isb H3 with ⟨c12,H3⟩|⟨c12,H3⟩;rotate_left
    ·skip;repeat apply TW.seq
     refine cf (f2 hh c12) ?_;repeat apply TW.seq
     refine sk ?_;obtain ⟨rAnd,e13,H3⟩:=zaf H3;repeat apply TW.seq
     refine rkc [4,8,9,10,11,12,13,14,15,16,18,19,38,39,40,45,46,47] [] [(.tup [ePat rAnd.1,.bool rAnd.2],stL [.cells true 10 ((zA 10).l.map (T.int .i64)),.gone,.gone,.gone,.cells true 10 (x3.l.map (T.int .i64)),.cells true 1 [.bool x4],.cells true 23 (T.int .i64 ((gx (t++[(⟨0,(⟨(zA 10),(zA 10)⟩:Pat),(-1),[]⟩:Rule)]) i).prio) :: ((((gx (t++[(⟨0,(⟨(zA 10),(zA 10)⟩:Pat),(-1),[]⟩:Rule)]) i).mat).mask).l.map (T.int .i64)++((((gx (t++[(⟨0,(⟨(zA 10),(zA 10)⟩:Pat),(-1),[]⟩:Rule)]) i).mat).bits).l.map (T.int .i64)++[T.int .i64 ((gx (t++[(⟨0,(⟨(zA 10),(zA 10)⟩:Pat),(-1),[]⟩:Rule)]) i).step),zbz ((gx (t++[(⟨0,(⟨(zA 10),(zA 10)⟩:Pat),(-1),[]⟩:Rule)]) i).outs)]))),.cells true 23 (T.int .i64 ((gx (u++[(⟨0,(⟨(zA 10),(zA 10)⟩:Pat),(-1),[]⟩:Rule)]) i2).prio) :: ((((gx (u++[(⟨0,(⟨(zA 10),(zA 10)⟩:Pat),(-1),[]⟩:Rule)]) i2).mat).mask).l.map (T.int .i64)++((((gx (u++[(⟨0,(⟨(zA 10),(zA 10)⟩:Pat),(-1),[]⟩:Rule)]) i2).mat).bits).l.map (T.int .i64)++[T.int .i64 ((gx (u++[(⟨0,(⟨(zA 10),(zA 10)⟩:Pat),(-1),[]⟩:Rule)]) i2).step),zbz ((gx (u++[(⟨0,(⟨(zA 10),(zA 10)⟩:Pat),(-1),[]⟩:Rule)]) i2).outs)])))])] (f2 hh c12) ?_ ?_
     ·exact ⟨za4.call (Pure.clr (zok ax hx k ((gx (t++[(⟨0,(⟨(zA 10),(zA 10)⟩:Pat),(-1),[]⟩:Rule)]) i).mat) ((gx (u++[(⟨0,(⟨(zA 10),(zA 10)⟩:Pat),(-1),[]⟩:Rule)]) i2).mat) rAnd e13 ) (by first|rfl|simp only [c12])),trivial⟩
     clear hh h;intro h hh;refine zk 18 8 20 true (rAnd.1.mask.l.map (T.int .i64)++(rAnd.1.bits.l.map (T.int .i64))) [4,8,9,10,11,12,13,14,15,16,18,19,38,39,40,45,46,47] hh ?_;clear hh h;intro h hh;repeat apply TW.seq
     refine rk [4,8,9,10,11,12,13,14,15,16,18,38,39,40,45,46,47,63] [] (f2 hh c12) ?_;clear hh h;intro h hh;rcases isb H3 with ⟨c14,H3⟩|⟨c14,H3⟩;rotate_left
     ·skip;repeat apply TW.seq
      refine cf (f2 hh c14) ?_;repeat apply TW.seq
      refine sk ?_;repeat apply TW.seq
      refine rk [4,8,9,10,11,12,13,14,15,38,39,40,45,46,47] [] (f3 hh c12 c14) ?_;clear hh h;intro h hh;exact rd m hh ⟨(IntKind.i64.wrap (i2+1)),x3,x4,H3,kq hh,rfl⟩
     repeat apply TW.seq
     refine ct (f2 hh c14) ?_;obtain ⟨s_4,H4,H3⟩:=zaf H3;repeat apply TW.seq
     refine cu [4,8,9,10,11,12,13,14,15,20,21,38,39,40,45,46,47] 11 (fun h bs=>(h 4=.ptr 0 0 10∧h 8=zbd (u++[(⟨0,(⟨(zA 10),(zA 10)⟩:Pat),(-1),[]⟩:Rule)])∧h 9=.ptr 4 0 10∧h 10=.ptr 5 0 1∧h 11=.fn 74 [] [.ptr 5 0 1,.ptr 4 0 10]∧h 12=.fn 68 [zbd (t++[(⟨0,(⟨(zA 10),(zA 10)⟩:Pat),(-1),[]⟩:Rule)])] []∧h 13=.fn 68 [zbd (u++[(⟨0,(⟨(zA 10),(zA 10)⟩:Pat),(-1),[]⟩:Rule)])] []∧h 14=.int .i64 i∧h 15=.ptr 6 0 23∧h 20=.ptr 10 0 10∧h 21=.bool s_4.1∧h 38=zbd (t++[(⟨0,(⟨(zA 10),(zA 10)⟩:Pat),(-1),[]⟩:Rule)])∧h 39=.int .i64 ((t++[(⟨0,(⟨(zA 10),(zA 10)⟩:Pat),(-1),[]⟩:Rule)]).length:Int)∧h 40=.int .i64 i∧h 45=zbd (u++[(⟨0,(⟨(zA 10),(zA 10)⟩:Pat),(-1),[]⟩:Rule)])∧h 46=.int .i64 ((u++[(⟨0,(⟨(zA 10),(zA 10)⟩:Pat),(-1),[]⟩:Rule)]).length:Int)∧h 47=.int .i64 i2)∧bs=[.cells true 10 ((zA 10).l.map (T.int .i64)),.gone,.gone,.gone,.cells true 10 (x3.l.map (T.int .i64)),.cells true 1 [.bool x4],.cells true 23 (T.int .i64 ((gx (t++[(⟨0,(⟨(zA 10),(zA 10)⟩:Pat),(-1),[]⟩:Rule)]) i).prio) :: ((((gx (t++[(⟨0,(⟨(zA 10),(zA 10)⟩:Pat),(-1),[]⟩:Rule)]) i).mat).mask).l.map (T.int .i64)++((((gx (t++[(⟨0,(⟨(zA 10),(zA 10)⟩:Pat),(-1),[]⟩:Rule)]) i).mat).bits).l.map (T.int .i64)++[T.int .i64 ((gx (t++[(⟨0,(⟨(zA 10),(zA 10)⟩:Pat),(-1),[]⟩:Rule)]) i).step),zbz ((gx (t++[(⟨0,(⟨(zA 10),(zA 10)⟩:Pat),(-1),[]⟩:Rule)]) i).outs)]))),.cells true 23 (T.int .i64 ((gx (u++[(⟨0,(⟨(zA 10),(zA 10)⟩:Pat),(-1),[]⟩:Rule)]) i2).prio) :: ((((gx (u++[(⟨0,(⟨(zA 10),(zA 10)⟩:Pat),(-1),[]⟩:Rule)]) i2).mat).mask).l.map (T.int .i64)++((((gx (u++[(⟨0,(⟨(zA 10),(zA 10)⟩:Pat),(-1),[]⟩:Rule)]) i2).mat).bits).l.map (T.int .i64)++[T.int .i64 ((gx (u++[(⟨0,(⟨(zA 10),(zA 10)⟩:Pat),(-1),[]⟩:Rule)]) i2).step),zbz ((gx (u++[(⟨0,(⟨(zA 10),(zA 10)⟩:Pat),(-1),[]⟩:Rule)]) i2).outs)]))),.gone,.cells false (s_4.2.2.1*20) (vecC ePat s_4.2.1),.cells true 10 (s_4.2.2.2.l.map (T.int .i64))]) ?_ ?_
     ·skip;obtain ⟨rb,e15,H4⟩:=zaf H4;obtain ⟨rbefore,e16,H4⟩:=zaf H4;obtain ⟨g17,H4⟩:=isg H4;rcases isp H4 with ⟨c18,H4⟩|⟨c18,H4⟩;rotate_left
      ·skip;obtain ⟨g21,H4⟩:=isg H4;obtain ⟨rOutside2,e22,H4⟩:=zaf H4;repeat apply TW.seq
       refine dcg 3 [18] [] [] [(.arr 9 20 0 rb.2 rb.2 (rb.2*20),stL [.cells true 10 ((zA 10).l.map (T.int .i64)),.gone,.gone,.gone,.cells true 10 (x3.l.map (T.int .i64)),.cells true 1 [.bool x4],.cells true 23 (T.int .i64 ((gx (t++[(⟨0,(⟨(zA 10),(zA 10)⟩:Pat),(-1),[]⟩:Rule)]) i).prio) :: ((((gx (t++[(⟨0,(⟨(zA 10),(zA 10)⟩:Pat),(-1),[]⟩:Rule)]) i).mat).mask).l.map (T.int .i64)++((((gx (t++[(⟨0,(⟨(zA 10),(zA 10)⟩:Pat),(-1),[]⟩:Rule)]) i).mat).bits).l.map (T.int .i64)++[T.int .i64 ((gx (t++[(⟨0,(⟨(zA 10),(zA 10)⟩:Pat),(-1),[]⟩:Rule)]) i).step),zbz ((gx (t++[(⟨0,(⟨(zA 10),(zA 10)⟩:Pat),(-1),[]⟩:Rule)]) i).outs)]))),.cells true 23 (T.int .i64 ((gx (u++[(⟨0,(⟨(zA 10),(zA 10)⟩:Pat),(-1),[]⟩:Rule)]) i2).prio) :: ((((gx (u++[(⟨0,(⟨(zA 10),(zA 10)⟩:Pat),(-1),[]⟩:Rule)]) i2).mat).mask).l.map (T.int .i64)++((((gx (u++[(⟨0,(⟨(zA 10),(zA 10)⟩:Pat),(-1),[]⟩:Rule)]) i2).mat).bits).l.map (T.int .i64)++[T.int .i64 ((gx (u++[(⟨0,(⟨(zA 10),(zA 10)⟩:Pat),(-1),[]⟩:Rule)]) i2).step),zbz ((gx (u++[(⟨0,(⟨(zA 10),(zA 10)⟩:Pat),(-1),[]⟩:Rule)]) i2).outs)]))),.gone,.cells false (rb.2*20) (vecC ePat rb.1)]),(lPat rbefore,stL [.cells true 10 ((zA 10).l.map (T.int .i64)),.gone,.gone,.gone,.cells true 10 (x3.l.map (T.int .i64)),.cells true 1 [.bool x4],.cells true 23 (T.int .i64 ((gx (t++[(⟨0,(⟨(zA 10),(zA 10)⟩:Pat),(-1),[]⟩:Rule)]) i).prio) :: ((((gx (t++[(⟨0,(⟨(zA 10),(zA 10)⟩:Pat),(-1),[]⟩:Rule)]) i).mat).mask).l.map (T.int .i64)++((((gx (t++[(⟨0,(⟨(zA 10),(zA 10)⟩:Pat),(-1),[]⟩:Rule)]) i).mat).bits).l.map (T.int .i64)++[T.int .i64 ((gx (t++[(⟨0,(⟨(zA 10),(zA 10)⟩:Pat),(-1),[]⟩:Rule)]) i).step),zbz ((gx (t++[(⟨0,(⟨(zA 10),(zA 10)⟩:Pat),(-1),[]⟩:Rule)]) i).outs)]))),.cells true 23 (T.int .i64 ((gx (u++[(⟨0,(⟨(zA 10),(zA 10)⟩:Pat),(-1),[]⟩:Rule)]) i2).prio) :: ((((gx (u++[(⟨0,(⟨(zA 10),(zA 10)⟩:Pat),(-1),[]⟩:Rule)]) i2).mat).mask).l.map (T.int .i64)++((((gx (u++[(⟨0,(⟨(zA 10),(zA 10)⟩:Pat),(-1),[]⟩:Rule)]) i2).mat).bits).l.map (T.int .i64)++[T.int .i64 ((gx (u++[(⟨0,(⟨(zA 10),(zA 10)⟩:Pat),(-1),[]⟩:Rule)]) i2).step),zbz ((gx (u++[(⟨0,(⟨(zA 10),(zA 10)⟩:Pat),(-1),[]⟩:Rule)]) i2).outs)]))),.gone,.cells false (rb.2*20) (vecC ePat rb.1)]),(.tup [.agg (rOutside2.1.l.map (T.int .i64)),.bool rOutside2.2],stL [.cells true 10 ((zA 10).l.map (T.int .i64)),.gone,.gone,.gone,.cells true 10 (x3.l.map (T.int .i64)),.cells true 1 [.bool x4],.cells true 23 (T.int .i64 ((gx (t++[(⟨0,(⟨(zA 10),(zA 10)⟩:Pat),(-1),[]⟩:Rule)]) i).prio) :: ((((gx (t++[(⟨0,(⟨(zA 10),(zA 10)⟩:Pat),(-1),[]⟩:Rule)]) i).mat).mask).l.map (T.int .i64)++((((gx (t++[(⟨0,(⟨(zA 10),(zA 10)⟩:Pat),(-1),[]⟩:Rule)]) i).mat).bits).l.map (T.int .i64)++[T.int .i64 ((gx (t++[(⟨0,(⟨(zA 10),(zA 10)⟩:Pat),(-1),[]⟩:Rule)]) i).step),zbz ((gx (t++[(⟨0,(⟨(zA 10),(zA 10)⟩:Pat),(-1),[]⟩:Rule)]) i).outs)]))),.cells true 23 (T.int .i64 ((gx (u++[(⟨0,(⟨(zA 10),(zA 10)⟩:Pat),(-1),[]⟩:Rule)]) i2).prio) :: ((((gx (u++[(⟨0,(⟨(zA 10),(zA 10)⟩:Pat),(-1),[]⟩:Rule)]) i2).mat).mask).l.map (T.int .i64)++((((gx (u++[(⟨0,(⟨(zA 10),(zA 10)⟩:Pat),(-1),[]⟩:Rule)]) i2).mat).bits).l.map (T.int .i64)++[T.int .i64 ((gx (u++[(⟨0,(⟨(zA 10),(zA 10)⟩:Pat),(-1),[]⟩:Rule)]) i2).step),zbz ((gx (u++[(⟨0,(⟨(zA 10),(zA 10)⟩:Pat),(-1),[]⟩:Rule)]) i2).outs)]))),.gone,.cells false ((rb.2+rbefore.length)*20) (vecC ePat (rb.1++rbefore))])] [.cells true 10 ((zA 10).l.map (T.int .i64)),.gone,.gone,.gone,.cells true 10 (x3.l.map (T.int .i64)),.cells true 1 [.bool x4],.cells true 23 (T.int .i64 ((gx (t++[(⟨0,(⟨(zA 10),(zA 10)⟩:Pat),(-1),[]⟩:Rule)]) i).prio) :: ((((gx (t++[(⟨0,(⟨(zA 10),(zA 10)⟩:Pat),(-1),[]⟩:Rule)]) i).mat).mask).l.map (T.int .i64)++((((gx (t++[(⟨0,(⟨(zA 10),(zA 10)⟩:Pat),(-1),[]⟩:Rule)]) i).mat).bits).l.map (T.int .i64)++[T.int .i64 ((gx (t++[(⟨0,(⟨(zA 10),(zA 10)⟩:Pat),(-1),[]⟩:Rule)]) i).step),zbz ((gx (t++[(⟨0,(⟨(zA 10),(zA 10)⟩:Pat),(-1),[]⟩:Rule)]) i).outs)]))),.cells true 23 (T.int .i64 ((gx (u++[(⟨0,(⟨(zA 10),(zA 10)⟩:Pat),(-1),[]⟩:Rule)]) i2).prio) :: ((((gx (u++[(⟨0,(⟨(zA 10),(zA 10)⟩:Pat),(-1),[]⟩:Rule)]) i2).mat).mask).l.map (T.int .i64)++((((gx (u++[(⟨0,(⟨(zA 10),(zA 10)⟩:Pat),(-1),[]⟩:Rule)]) i2).mat).bits).l.map (T.int .i64)++[T.int .i64 ((gx (u++[(⟨0,(⟨(zA 10),(zA 10)⟩:Pat),(-1),[]⟩:Rule)]) i2).step),zbz ((gx (u++[(⟨0,(⟨(zA 10),(zA 10)⟩:Pat),(-1),[]⟩:Rule)]) i2).outs)]))),.gone,.cells false ((rb.2+rbefore.length)*20) (vecC ePat (rb.1++rbefore)),.cells true 10 (rOutside2.1.l.map (T.int .i64))] (fun h=>h 4=.ptr 0 0 10∧h 8=zbd (u++[(⟨0,(⟨(zA 10),(zA 10)⟩:Pat),(-1),[]⟩:Rule)])∧h 9=.ptr 4 0 10∧h 10=.ptr 5 0 1∧h 11=.fn 74 [] [.ptr 5 0 1,.ptr 4 0 10]∧h 12=.fn 68 [zbd (t++[(⟨0,(⟨(zA 10),(zA 10)⟩:Pat),(-1),[]⟩:Rule)])] []∧h 13=.fn 68 [zbd (u++[(⟨0,(⟨(zA 10),(zA 10)⟩:Pat),(-1),[]⟩:Rule)])] []∧h 14=.int .i64 i∧h 15=.ptr 6 0 23∧h 20=.ptr 10 0 10∧h 21=.bool rOutside2.2∧h 38=zbd (t++[(⟨0,(⟨(zA 10),(zA 10)⟩:Pat),(-1),[]⟩:Rule)])∧h 39=.int .i64 ((t++[(⟨0,(⟨(zA 10),(zA 10)⟩:Pat),(-1),[]⟩:Rule)]).length:Int)∧h 40=.int .i64 i∧h 45=zbd (u++[(⟨0,(⟨(zA 10),(zA 10)⟩:Pat),(-1),[]⟩:Rule)])∧h 46=.int .i64 ((u++[(⟨0,(⟨(zA 10),(zA 10)⟩:Pat),(-1),[]⟩:Rule)]).length:Int)∧h 47=.int .i64 i2) (f3 hh c12 (f3 c14 (zhd ePat rbefore) (f3 (zey (f:=ePat) (e:=20) (fun x=>zcu x) rbefore) (zgq (f:=ePat) (fun x=>z25 x) rbefore) (f2 (z58 ax) (ybx ax))))) trivial ?_ ?_
       ·exact ⟨car [9] (zfr ax hx k (t++[(⟨0,(⟨(zA 10),(zA 10)⟩:Pat),(-1),[]⟩:Rule)]) i rb e15),za4.call (Pure.clr (zgb ax hx k (u++[(⟨0,(⟨(zA 10),(zA 10)⟩:Pat),(-1),[]⟩:Rule)]) i2 rbefore e16 ) (by first|rfl|simp only [c12,c14])),(by have q:=za4.call (Pure.lend (S:=stL [.cells true 10 ((zA 10).l.map (T.int .i64)),.gone,.gone,.gone,.cells true 10 (x3.l.map (T.int .i64)),.cells true 1 [.bool x4],.cells true 23 (T.int .i64 ((gx (t++[(⟨0,(⟨(zA 10),(zA 10)⟩:Pat),(-1),[]⟩:Rule)]) i).prio) :: ((((gx (t++[(⟨0,(⟨(zA 10),(zA 10)⟩:Pat),(-1),[]⟩:Rule)]) i).mat).mask).l.map (T.int .i64)++((((gx (t++[(⟨0,(⟨(zA 10),(zA 10)⟩:Pat),(-1),[]⟩:Rule)]) i).mat).bits).l.map (T.int .i64)++[T.int .i64 ((gx (t++[(⟨0,(⟨(zA 10),(zA 10)⟩:Pat),(-1),[]⟩:Rule)]) i).step),zbz ((gx (t++[(⟨0,(⟨(zA 10),(zA 10)⟩:Pat),(-1),[]⟩:Rule)]) i).outs)]))),.cells true 23 (T.int .i64 ((gx (u++[(⟨0,(⟨(zA 10),(zA 10)⟩:Pat),(-1),[]⟩:Rule)]) i2).prio) :: ((((gx (u++[(⟨0,(⟨(zA 10),(zA 10)⟩:Pat),(-1),[]⟩:Rule)]) i2).mat).mask).l.map (T.int .i64)++((((gx (u++[(⟨0,(⟨(zA 10),(zA 10)⟩:Pat),(-1),[]⟩:Rule)]) i2).mat).bits).l.map (T.int .i64)++[T.int .i64 ((gx (u++[(⟨0,(⟨(zA 10),(zA 10)⟩:Pat),(-1),[]⟩:Rule)]) i2).step),zbz ((gx (u++[(⟨0,(⟨(zA 10),(zA 10)⟩:Pat),(-1),[]⟩:Rule)]) i2).outs)]))),.gone,.cells false ((rb.2+rbefore.length)*20) (vecC ePat (rb.1++rbefore))]) (args:=[ePat rAnd.1,.arr 9 20 0 (rb.2+rbefore.length) (rb.2+rbefore.length) ((rb.2+rbefore.length)*20)]) (zj0 ax hx k rAnd.1 (rb.1++rbefore) rOutside2 e22 ) (And.intro (Or.inl rfl) (And.intro (zpp (fun x=>zcu x) (by decide) (by rfl) g21) (trivial))) (by first|rfl | (simp only [tupT,T.flat,T.flatL,zwr,zia,Bool.and_self];done)));(try simp only [c12,c14] at q);first|exact q | (simp only [Nat.add_mul,Nat.one_mul,zbn] at q ⊢;exact q)),trivial⟩
       clear hh h;intro h hh;cases H4;exact ce hh ⟨kq hh,rfl⟩
      obtain ⟨g19,H4⟩:=isg H4;obtain ⟨rOutside,e20,H4⟩:=zaf H4;repeat apply TW.seq
      refine dcg 3 [18] [] [] [(.arr 9 20 0 rb.2 rb.2 (rb.2*20),stL [.cells true 10 ((zA 10).l.map (T.int .i64)),.gone,.gone,.gone,.cells true 10 (x3.l.map (T.int .i64)),.cells true 1 [.bool x4],.cells true 23 (T.int .i64 ((gx (t++[(⟨0,(⟨(zA 10),(zA 10)⟩:Pat),(-1),[]⟩:Rule)]) i).prio) :: ((((gx (t++[(⟨0,(⟨(zA 10),(zA 10)⟩:Pat),(-1),[]⟩:Rule)]) i).mat).mask).l.map (T.int .i64)++((((gx (t++[(⟨0,(⟨(zA 10),(zA 10)⟩:Pat),(-1),[]⟩:Rule)]) i).mat).bits).l.map (T.int .i64)++[T.int .i64 ((gx (t++[(⟨0,(⟨(zA 10),(zA 10)⟩:Pat),(-1),[]⟩:Rule)]) i).step),zbz ((gx (t++[(⟨0,(⟨(zA 10),(zA 10)⟩:Pat),(-1),[]⟩:Rule)]) i).outs)]))),.cells true 23 (T.int .i64 ((gx (u++[(⟨0,(⟨(zA 10),(zA 10)⟩:Pat),(-1),[]⟩:Rule)]) i2).prio) :: ((((gx (u++[(⟨0,(⟨(zA 10),(zA 10)⟩:Pat),(-1),[]⟩:Rule)]) i2).mat).mask).l.map (T.int .i64)++((((gx (u++[(⟨0,(⟨(zA 10),(zA 10)⟩:Pat),(-1),[]⟩:Rule)]) i2).mat).bits).l.map (T.int .i64)++[T.int .i64 ((gx (u++[(⟨0,(⟨(zA 10),(zA 10)⟩:Pat),(-1),[]⟩:Rule)]) i2).step),zbz ((gx (u++[(⟨0,(⟨(zA 10),(zA 10)⟩:Pat),(-1),[]⟩:Rule)]) i2).outs)]))),.gone,.cells false (rb.2*20) (vecC ePat rb.1)]),(lPat rbefore,stL [.cells true 10 ((zA 10).l.map (T.int .i64)),.gone,.gone,.gone,.cells true 10 (x3.l.map (T.int .i64)),.cells true 1 [.bool x4],.cells true 23 (T.int .i64 ((gx (t++[(⟨0,(⟨(zA 10),(zA 10)⟩:Pat),(-1),[]⟩:Rule)]) i).prio) :: ((((gx (t++[(⟨0,(⟨(zA 10),(zA 10)⟩:Pat),(-1),[]⟩:Rule)]) i).mat).mask).l.map (T.int .i64)++((((gx (t++[(⟨0,(⟨(zA 10),(zA 10)⟩:Pat),(-1),[]⟩:Rule)]) i).mat).bits).l.map (T.int .i64)++[T.int .i64 ((gx (t++[(⟨0,(⟨(zA 10),(zA 10)⟩:Pat),(-1),[]⟩:Rule)]) i).step),zbz ((gx (t++[(⟨0,(⟨(zA 10),(zA 10)⟩:Pat),(-1),[]⟩:Rule)]) i).outs)]))),.cells true 23 (T.int .i64 ((gx (u++[(⟨0,(⟨(zA 10),(zA 10)⟩:Pat),(-1),[]⟩:Rule)]) i2).prio) :: ((((gx (u++[(⟨0,(⟨(zA 10),(zA 10)⟩:Pat),(-1),[]⟩:Rule)]) i2).mat).mask).l.map (T.int .i64)++((((gx (u++[(⟨0,(⟨(zA 10),(zA 10)⟩:Pat),(-1),[]⟩:Rule)]) i2).mat).bits).l.map (T.int .i64)++[T.int .i64 ((gx (u++[(⟨0,(⟨(zA 10),(zA 10)⟩:Pat),(-1),[]⟩:Rule)]) i2).step),zbz ((gx (u++[(⟨0,(⟨(zA 10),(zA 10)⟩:Pat),(-1),[]⟩:Rule)]) i2).outs)]))),.gone,.cells false (rb.2*20) (vecC ePat rb.1)]),(.tup [.agg (rOutside.1.l.map (T.int .i64)),.bool rOutside.2],stL [.cells true 10 ((zA 10).l.map (T.int .i64)),.gone,.gone,.gone,.cells true 10 (x3.l.map (T.int .i64)),.cells true 1 [.bool x4],.cells true 23 (T.int .i64 ((gx (t++[(⟨0,(⟨(zA 10),(zA 10)⟩:Pat),(-1),[]⟩:Rule)]) i).prio) :: ((((gx (t++[(⟨0,(⟨(zA 10),(zA 10)⟩:Pat),(-1),[]⟩:Rule)]) i).mat).mask).l.map (T.int .i64)++((((gx (t++[(⟨0,(⟨(zA 10),(zA 10)⟩:Pat),(-1),[]⟩:Rule)]) i).mat).bits).l.map (T.int .i64)++[T.int .i64 ((gx (t++[(⟨0,(⟨(zA 10),(zA 10)⟩:Pat),(-1),[]⟩:Rule)]) i).step),zbz ((gx (t++[(⟨0,(⟨(zA 10),(zA 10)⟩:Pat),(-1),[]⟩:Rule)]) i).outs)]))),.cells true 23 (T.int .i64 ((gx (u++[(⟨0,(⟨(zA 10),(zA 10)⟩:Pat),(-1),[]⟩:Rule)]) i2).prio) :: ((((gx (u++[(⟨0,(⟨(zA 10),(zA 10)⟩:Pat),(-1),[]⟩:Rule)]) i2).mat).mask).l.map (T.int .i64)++((((gx (u++[(⟨0,(⟨(zA 10),(zA 10)⟩:Pat),(-1),[]⟩:Rule)]) i2).mat).bits).l.map (T.int .i64)++[T.int .i64 ((gx (u++[(⟨0,(⟨(zA 10),(zA 10)⟩:Pat),(-1),[]⟩:Rule)]) i2).step),zbz ((gx (u++[(⟨0,(⟨(zA 10),(zA 10)⟩:Pat),(-1),[]⟩:Rule)]) i2).outs)]))),.gone,.cells false (rb.2*20) (vecC ePat rb.1)])] [.cells true 10 ((zA 10).l.map (T.int .i64)),.gone,.gone,.gone,.cells true 10 (x3.l.map (T.int .i64)),.cells true 1 [.bool x4],.cells true 23 (T.int .i64 ((gx (t++[(⟨0,(⟨(zA 10),(zA 10)⟩:Pat),(-1),[]⟩:Rule)]) i).prio) :: ((((gx (t++[(⟨0,(⟨(zA 10),(zA 10)⟩:Pat),(-1),[]⟩:Rule)]) i).mat).mask).l.map (T.int .i64)++((((gx (t++[(⟨0,(⟨(zA 10),(zA 10)⟩:Pat),(-1),[]⟩:Rule)]) i).mat).bits).l.map (T.int .i64)++[T.int .i64 ((gx (t++[(⟨0,(⟨(zA 10),(zA 10)⟩:Pat),(-1),[]⟩:Rule)]) i).step),zbz ((gx (t++[(⟨0,(⟨(zA 10),(zA 10)⟩:Pat),(-1),[]⟩:Rule)]) i).outs)]))),.cells true 23 (T.int .i64 ((gx (u++[(⟨0,(⟨(zA 10),(zA 10)⟩:Pat),(-1),[]⟩:Rule)]) i2).prio) :: ((((gx (u++[(⟨0,(⟨(zA 10),(zA 10)⟩:Pat),(-1),[]⟩:Rule)]) i2).mat).mask).l.map (T.int .i64)++((((gx (u++[(⟨0,(⟨(zA 10),(zA 10)⟩:Pat),(-1),[]⟩:Rule)]) i2).mat).bits).l.map (T.int .i64)++[T.int .i64 ((gx (u++[(⟨0,(⟨(zA 10),(zA 10)⟩:Pat),(-1),[]⟩:Rule)]) i2).step),zbz ((gx (u++[(⟨0,(⟨(zA 10),(zA 10)⟩:Pat),(-1),[]⟩:Rule)]) i2).outs)]))),.gone,.cells false (rb.2*20) (vecC ePat rb.1),.cells true 10 (rOutside.1.l.map (T.int .i64))] (fun h=>h 4=.ptr 0 0 10∧h 8=zbd (u++[(⟨0,(⟨(zA 10),(zA 10)⟩:Pat),(-1),[]⟩:Rule)])∧h 9=.ptr 4 0 10∧h 10=.ptr 5 0 1∧h 11=.fn 74 [] [.ptr 5 0 1,.ptr 4 0 10]∧h 12=.fn 68 [zbd (t++[(⟨0,(⟨(zA 10),(zA 10)⟩:Pat),(-1),[]⟩:Rule)])] []∧h 13=.fn 68 [zbd (u++[(⟨0,(⟨(zA 10),(zA 10)⟩:Pat),(-1),[]⟩:Rule)])] []∧h 14=.int .i64 i∧h 15=.ptr 6 0 23∧h 20=.ptr 10 0 10∧h 21=.bool rOutside.2∧h 38=zbd (t++[(⟨0,(⟨(zA 10),(zA 10)⟩:Pat),(-1),[]⟩:Rule)])∧h 39=.int .i64 ((t++[(⟨0,(⟨(zA 10),(zA 10)⟩:Pat),(-1),[]⟩:Rule)]).length:Int)∧h 40=.int .i64 i∧h 45=zbd (u++[(⟨0,(⟨(zA 10),(zA 10)⟩:Pat),(-1),[]⟩:Rule)])∧h 46=.int .i64 ((u++[(⟨0,(⟨(zA 10),(zA 10)⟩:Pat),(-1),[]⟩:Rule)]).length:Int)∧h 47=.int .i64 i2) (f3 hh c12 (f3 c14 c18 (f3 (zhd ePat rbefore) (zey (f:=ePat) (e:=20) (fun x=>zcu x) rbefore) (f3 (zgq (f:=ePat) (fun x=>z25 x) rbefore) (z58 ax) (ybx ax))))) trivial ?_ ?_
      ·exact ⟨car [9] (zfr ax hx k (t++[(⟨0,(⟨(zA 10),(zA 10)⟩:Pat),(-1),[]⟩:Rule)]) i rb e15),za4.call (Pure.clr (zgb ax hx k (u++[(⟨0,(⟨(zA 10),(zA 10)⟩:Pat),(-1),[]⟩:Rule)]) i2 rbefore e16 ) (by first|rfl|simp only [c12,c14])),(by have q:=za4.call (Pure.lend (S:=stL [.cells true 10 ((zA 10).l.map (T.int .i64)),.gone,.gone,.gone,.cells true 10 (x3.l.map (T.int .i64)),.cells true 1 [.bool x4],.cells true 23 (T.int .i64 ((gx (t++[(⟨0,(⟨(zA 10),(zA 10)⟩:Pat),(-1),[]⟩:Rule)]) i).prio) :: ((((gx (t++[(⟨0,(⟨(zA 10),(zA 10)⟩:Pat),(-1),[]⟩:Rule)]) i).mat).mask).l.map (T.int .i64)++((((gx (t++[(⟨0,(⟨(zA 10),(zA 10)⟩:Pat),(-1),[]⟩:Rule)]) i).mat).bits).l.map (T.int .i64)++[T.int .i64 ((gx (t++[(⟨0,(⟨(zA 10),(zA 10)⟩:Pat),(-1),[]⟩:Rule)]) i).step),zbz ((gx (t++[(⟨0,(⟨(zA 10),(zA 10)⟩:Pat),(-1),[]⟩:Rule)]) i).outs)]))),.cells true 23 (T.int .i64 ((gx (u++[(⟨0,(⟨(zA 10),(zA 10)⟩:Pat),(-1),[]⟩:Rule)]) i2).prio) :: ((((gx (u++[(⟨0,(⟨(zA 10),(zA 10)⟩:Pat),(-1),[]⟩:Rule)]) i2).mat).mask).l.map (T.int .i64)++((((gx (u++[(⟨0,(⟨(zA 10),(zA 10)⟩:Pat),(-1),[]⟩:Rule)]) i2).mat).bits).l.map (T.int .i64)++[T.int .i64 ((gx (u++[(⟨0,(⟨(zA 10),(zA 10)⟩:Pat),(-1),[]⟩:Rule)]) i2).step),zbz ((gx (u++[(⟨0,(⟨(zA 10),(zA 10)⟩:Pat),(-1),[]⟩:Rule)]) i2).outs)]))),.gone,.cells false (rb.2*20) (vecC ePat rb.1)]) (args:=[ePat rAnd.1,.arr 9 20 0 rb.2 rb.2 (rb.2*20)]) (zj0 ax hx k rAnd.1 rb.1 rOutside e20 ) (And.intro (Or.inl rfl) (And.intro (zpp (fun x=>zcu x) (by decide) (by rfl) g19) (trivial))) (by first|rfl | (simp only [tupT,T.flat,T.flatL,zwr,zia,Bool.and_self];done)));(try simp only [c12,c14] at q);first|exact q | (simp only [Nat.add_mul,Nat.one_mul,zbn] at q ⊢;exact q)),trivial⟩
      clear hh h;intro h hh;cases H4;exact ce hh ⟨kq hh,rfl⟩
     clear hh h;rintro h bs ⟨hh,rfl⟩;repeat apply TW.seq
     refine rk [4,8,9,10,11,12,13,14,15,20,38,39,40,45,46,47,76] [] (f3 hh c12 c14) ?_;clear hh h;intro h hh;rcases isb H3 with ⟨c23,H3⟩|⟨c23,H3⟩;rotate_left
     ·skip;repeat apply TW.seq
      refine cf (f2 hh c23) ?_;repeat apply TW.seq
      refine sk ?_;repeat apply TW.seq
      refine rk [4,8,9,10,11,12,13,14,15,38,39,40,45,46,47] [] (f3 hh c12 (f2 c14 c23)) ?_;clear hh h;intro h hh;exact rd m hh ⟨(IntKind.i64.wrap (i2+1)),x3,x4,H3,kq hh,rfl⟩
     repeat apply TW.seq
     refine ct (f2 hh c23) ?_;obtain ⟨rb2,e24,H3⟩:=zaf H3;repeat apply TW.seq
     refine rkc [4,8,9,10,11,12,13,14,15,38,39,40,45,46,47] [] [(.tup [],stL [.cells true 10 ((zA 10).l.map (T.int .i64)),.gone,.gone,.gone,.cells true 10 (rb2.2.l.map (T.int .i64)),.cells true 1 [.bool rb2.1],.cells true 23 (T.int .i64 ((gx (t++[(⟨0,(⟨(zA 10),(zA 10)⟩:Pat),(-1),[]⟩:Rule)]) i).prio) :: ((((gx (t++[(⟨0,(⟨(zA 10),(zA 10)⟩:Pat),(-1),[]⟩:Rule)]) i).mat).mask).l.map (T.int .i64)++((((gx (t++[(⟨0,(⟨(zA 10),(zA 10)⟩:Pat),(-1),[]⟩:Rule)]) i).mat).bits).l.map (T.int .i64)++[T.int .i64 ((gx (t++[(⟨0,(⟨(zA 10),(zA 10)⟩:Pat),(-1),[]⟩:Rule)]) i).step),zbz ((gx (t++[(⟨0,(⟨(zA 10),(zA 10)⟩:Pat),(-1),[]⟩:Rule)]) i).outs)]))),.cells true 23 (T.int .i64 ((gx (u++[(⟨0,(⟨(zA 10),(zA 10)⟩:Pat),(-1),[]⟩:Rule)]) i2).prio) :: ((((gx (u++[(⟨0,(⟨(zA 10),(zA 10)⟩:Pat),(-1),[]⟩:Rule)]) i2).mat).mask).l.map (T.int .i64)++((((gx (u++[(⟨0,(⟨(zA 10),(zA 10)⟩:Pat),(-1),[]⟩:Rule)]) i2).mat).bits).l.map (T.int .i64)++[T.int .i64 ((gx (u++[(⟨0,(⟨(zA 10),(zA 10)⟩:Pat),(-1),[]⟩:Rule)]) i2).step),zbz ((gx (u++[(⟨0,(⟨(zA 10),(zA 10)⟩:Pat),(-1),[]⟩:Rule)]) i2).outs)]))),.gone,.cells false (s_4.2.2.1*20) (vecC ePat s_4.2.1),.cells true 10 (s_4.2.2.2.l.map (T.int .i64))])] (f3 hh c12 (f2 c14 c23)) ?_ ?_
     ·exact ⟨ca [5,4] (zlr ax hx k s_4.2.2.2 x4 x3 rb2 e24),trivial⟩
     clear hh h;intro h hh;repeat apply TW.seq
     refine rk [4,8,9,10,11,12,13,14,15,38,39,40,45,46,47] [] (f3 hh c12 (f2 c14 c23)) ?_;clear hh h;intro h hh;exact rd m hh ⟨(IntKind.i64.wrap (i2+1)),rb2.2,rb2.1,H3,kq hh,rfl⟩
    repeat apply TW.seq
    refine ct (f2 hh c12) ?_;refine xk ?_;repeat apply TW.seq
    refine rk [4,8,9,10,11,12,13,14,15,38,39,40,45,46,47] [] (f2 hh c12) ?_;clear hh h;intro h hh;exact rd m hh ⟨(IntKind.i64.wrap (i2+1)),x3,x4,H3,kq hh,rfl⟩
   clear hh h;rintro h bs ⟨hh,rfl⟩;cases H2;exact ce hh ⟨kq hh,rfl⟩
  clear hh h;rintro h bs ⟨hh,rfl⟩;repeat apply TW.seq
  refine rk [4,8,9,10,11,12,13,38,39,40] [] hh ?_;clear hh h;intro h hh;exact rd m hh ⟨(IntKind.i64.wrap (i+1)),s_2.1,s_2.2,H1,kq hh,rfl⟩
 clear hh h;rintro h bs ⟨hh,rfl⟩;repeat apply TW.seq
 refine ds 3 [(4,some 0),(10,some 5)] [4,5] [] [] [] hh trivial trivial ?_;clear hh h;intro h hh;cases H;exact rtc hh
end
section
open Go Go.RowKit
set_option maxRecDepth 100000
end
section
open Go Go.RowKit
theorem ydo {k:Nat} {p q:Pat} (hp:zag p=true) (hq:zag q=true) (hk:10<k):∃ r,zi3 k p q=some r∧((zcv p q=false∧r.2=false)∨(zcv p q=true∧r.2=true∧Meet p q r.1)):=by
  obtain ⟨pm,pb,pw⟩:=zam.1 hp;obtain ⟨qm,qb,qw⟩:=zam.1 hq
  have key:∀ (m i:Nat) (x y:Ar 10),i≤10→10 - i<m→(∀ s:Nat,s<10→gx x.l (s:Int)=((if s<i then hw p.mask s ||| hw q.mask s else hw p.mask s:Nat):Int)∧gx y.l (s:Int)=((if s<i then hw p.bits s ||| hw q.bits s else hw p.bits s:Nat):Int))→∃ x' y',zdo k q m (i:Int) x y=some (x',y')∧∀ s:Nat,s<10→gx x'.l (s:Int)=((hw p.mask s ||| hw q.mask s:Nat):Int)∧gx y'.l (s:Int)=((hw p.bits s ||| hw q.bits s:Nat):Int):=by
    intro m
    induction m with
    |zero=>intro i x y h1 h2;omega
    |succ m ih =>
      intro i x y h1 h2 hI;rw [zdo];by_cases c:i<10
      · obtain ⟨a1,a2⟩:=hI i c;rw [if_neg (Nat.lt_irrefl i)] at a1 a2;obtain ⟨b1,b2⟩:=zb1 qm c;obtain ⟨c1,c2⟩:=zb1 qb c;have d1:=(zb1 pm c).2;have d2:=(zb1 pb c).2;rw [if_pos (lt10 c),if_pos ⟨by omega,lt10 c⟩,a1,a2,b1,c1,z1d (by omega) (by omega),z1d (by omega) (by omega),zce i (by omega)];refine ih (i+1) _ _ (by omega) (by omega) fun s hs=>?_;by_cases e:s=i
        · subst e;rw [zgl _ c,zgl _ c,if_pos (Nat.lt_succ_self s),if_pos (Nat.lt_succ_self s)];exact ⟨rfl,rfl⟩
        · rw [zja _ hs (fun h=>e h.symm),zja _ hs (fun h=>e h.symm)];obtain ⟨h3,h4⟩:=hI s hs;rw [h3,h4];by_cases f:s<i
          · rw [if_pos f,if_pos f,if_pos (by omega),if_pos (by omega)];exact ⟨rfl,rfl⟩
          · rw [if_neg f,if_neg f,if_neg (by omega),if_neg (by omega)];exact ⟨rfl,rfl⟩
      · obtain rfl:i=10:=by omega
        rw [if_neg (by decide)];refine ⟨x,y,rfl,fun s hs=>?_⟩;have:=hI s hs;rw [if_pos hs,if_pos hs] at this;exact this
  unfold zi3;rw [zo7 hp hq hk,Option.bind_some]
  cases ho:zcv p q with
  |false=>exact ⟨_,by rw [if_neg (by simp)],.inl ⟨rfl,rfl⟩⟩
  |true =>
    obtain ⟨x',y',e,hI⟩:=key k 0 p.mask p.bits (by omega) (by omega) fun s hs=>by
      rw [if_neg (Nat.not_lt_zero s),if_neg (Nat.not_lt_zero s)];exact ⟨(zb1 pm hs).1,(zb1 pb hs).1⟩
    rw [if_pos rfl];change zdo k q k 0 p.mask p.bits=_ at e;rw [e,Option.bind_some];refine ⟨_,rfl,.inr ⟨rfl,rfl,?_⟩⟩;have lt:∀ {a b:Nat},a<65536→b<65536→a ||| b<65536:=fun {a b} ha hb=>Nat.or_lt_two_pow (n:=16) ha hb
    have h1:zac x'=true:=zh5 fun j hj=>⟨_,(hI j hj).1,lt (zb1 pm hj).2 (zb1 qm hj).2⟩;have h2:zac y'=true:=zh5 fun j hj=>⟨_,(hI j hj).2,lt (zb1 pb hj).2 (zb1 qb hj).2⟩
    have b1:∀ j,j<160→hbit x' j=(hbit p.mask j || hbit q.mask j):=fun j hj=>by
      have:=(hI (j / 16) (by omega)).1;unfold hbit
      have e:hw x' (j / 16)=hw p.mask (j / 16) ||| hw q.mask (j / 16):=by
        unfold hw at this ⊢;rw [this];rfl
      rw [e,Nat.testBit_or]
    have b2:∀ j,j<160→hbit y' j=(hbit p.bits j || hbit q.bits j):=fun j hj=>by
      have:=(hI (j / 16) (by omega)).2;unfold hbit
      have e:hw y' (j / 16)=hw p.bits (j / 16) ||| hw q.bits (j / 16):=by
        unfold hw at this ⊢;rw [this];rfl
      rw [e,Nat.testBit_or]
    refine ⟨h1,h2,b1,fun j hj=>?_⟩;show hbit y' j=_;rw [b2 j hj]
    cases hm:hbit q.mask j with
    |true =>
      rw [if_pos rfl]
      cases hpb:hbit p.bits j with
      |false=>rfl
      |true=>rw [← zhx.1 ho j hj (pw j hj hpb) hm,hpb];rfl
    |false =>
      rw [if_neg (by simp)]
      cases hqb:hbit q.bits j with
      |false=>rw [Bool.or_false]
      |true=>rw [qw j hj hqb] at hm;cases hm
theorem Meet.right {p q r:Pat} (h:Meet p q r) (hp:zag p=true) (hq:zag q=true):zag r=true:=by
  obtain ⟨pm,pb,pw⟩:=zam.1 hp;obtain ⟨qm,qb,qw⟩:=zam.1 hq;refine zam.2 ⟨h.mask,h.bits,fun i hi hb=>?_⟩;rw [h.hb i hi] at hb;rw [h.hm i hi]
  cases hm:hbit q.mask i with
  |true=>exact Bool.or_true _
  |false=>rw [hm,if_neg (by simp)] at hb;rw [pw i hi hb];rfl
theorem Meet.match {p q r:Pat} (h:Meet p q r) (ho:zcv p q=true) (x:Ar 10):za5 r x=true↔za5 p x=true∧za5 q x=true:=by
  rw [za1,za1,za1];constructor
  · intro hm;refine ⟨fun i hi h1=>?_,fun i hi h1=>?_⟩
    · have:=hm i hi (by rw [h.hm i hi,h1];rfl);rw [h.hb i hi] at this;by_cases c:hbit q.mask i=true
      · rw [if_pos c] at this;rw [zhx.1 ho i hi h1 c];exact this
      · rw [if_neg c] at this;exact this
    · have:=hm i hi (by rw [h.hm i hi,h1];exact Bool.or_true _);rw [h.hb i hi,if_pos h1] at this;exact this
  · rintro ⟨hp,hq⟩ i hi h1;rw [h.hb i hi];by_cases c:hbit q.mask i=true
    · rw [if_pos c];exact hq i hi c
    · rw [if_neg c];rw [h.hm i hi,Bool.or_eq_true] at h1;rcases h1 with h1|h1
      · exact hp i hi h1
      · exact absurd h1 c
theorem Meet.into {p q r:Pat} {F:List Nat} (h:Meet p q r) (hp:∀ j,j<160→hbit p.mask j=true→j∈F) (hq:∀ j,j<160→hbit q.mask j=true→j∈F):∀ j,j<160→hbit r.mask j=true→j∈F:=fun j hj hm=>by
  rw [h.hm j hj,Bool.or_eq_true] at hm;rcases hm with hm|hm
  · exact hp j hj hm
  · exact hq j hj hm
theorem zsf {k:Nat} (t:List Rule) (n:Nat) (hn:n≤t.length) (ht:t.length≤5000) (hk:big≤k):zb7 k t (n:Int)=some (bef t n,n):=by
  have key:∀ m j,j≤n→n - j<m→zat k t (n:Int) m (j:Int) (bef t j++List.replicate (n - j) (⟨zA 10,zA 10⟩:Pat))=some (bef t n):=by
    intro m
    induction m with
    |zero=>intro j h1 h2;omega
    |succ m ih =>
      intro j h1 h2;rw [zat];have hl:=zl5 (t:=t) (i:=j) (by omega);by_cases c:j<n
      · have ct:j<t.length:=by omega
        rw [if_pos (by omega),if_pos ⟨by omega,by omega⟩,if_pos ⟨by omega,by omega⟩,if_pos (by rw [List.length_append,List.length_replicate,hl];omega),zf4 ct,zce j (by omega)];have:=ih (j+1) (by omega) (by omega);rw [zw4 ct] at this;rw [show ((j:Int)).toNat=j by omega,List.set_append_right _ _ (by omega),hl,Nat.sub_self,show n - j=(n - (j+1))+1 by omega,List.replicate_succ,List.set_cons_zero];rw [List.append_assoc] at this;exact this
      · obtain rfl:j=n:=by omega
        rw [if_neg (by omega),Nat.sub_self,List.replicate_zero,List.append_nil]
  have:=key k 0 (Nat.zero_le _) (by simp only [big] at hk;omega);unfold zb7;rw [if_pos ⟨by omega,by omega⟩];rw [show ((0:Nat):Int)=0 from rfl,show bef t 0=[] from rfl,List.nil_append,Nat.sub_zero] at this;rw [show ((n:Int)).toNat=n by omega,this,Option.bind_some]
end
section
open Go Go.RowKit
abbrev ybe (r s:Rule):Prop:=r.step=s.step∧r.outs=s.outs
structure Dif (a b:List Rule) (i j:Nat) (h:Ar 10):Prop where
  ne:¬ ybe (a.getD i default) (b.getD j default)
  one:Out (a.getD i default).mat (bef a i) h
  two:Out (b.getD j default).mat (bef b j) h
def U (n i j i' j':Nat):Prop:=j'<n∧(i'<i∨(i'=i∧j'<j))
def Acc (a b:List Rule) (P:Nat→Nat→Prop) (x:Ar 10) (f:Bool):Prop:=(f=true∧(∃ i j,P i j∧Dif a b i j x)∧∀ i j h,P i j→Dif a b i j h→¬ ltH h x)∨(f=false∧x=zA 10∧∀ i j h,P i j→¬ Dif a b i j h)
section
variable {a b:List Rule} {P P':Nat→Nat→Prop} {x y:Ar 10} {f:Bool} {i j:Nat}
theorem Acc.right (h:Acc a b P x f) (hf:f=true):zac x=true:=by
  rcases h with ⟨_,⟨i,j,_,d⟩,_⟩|⟨e,_,_⟩
  · exact d.one.right
  · rw [e] at hf;cases hf
theorem Acc.mono (h:Acc a b P x f) (h1:∀ i j,P i j→P' i j) (h2:∀ i j,P' i j→P i j):Acc a b P' x f:=by
  rcases h with ⟨e,⟨i,j,p,d⟩,l⟩|⟨e,z,n⟩
  · exact .inl ⟨e,⟨i,j,h1 _ _ p,d⟩,fun i j h p'=>l i j h (h2 _ _ p')⟩
  · exact .inr ⟨e,z,fun i j h p'=>n i j h (h2 _ _ p')⟩
theorem Acc.none (h:Acc a b P x f) (h1:∀ i j,P i j→P' i j) (h2:∀ i' j',P' i' j'→P i' j'∨(i'=i∧j'=j)) (hn:∀ h,¬ Dif a b i j h):Acc a b P' x f:=by
  rcases h with ⟨e,⟨i1,j1,p,d⟩,l⟩|⟨e,z,n⟩
  · refine .inl ⟨e,⟨i1,j1,h1 _ _ p,d⟩,fun i' j' h p' d'=>?_⟩;rcases h2 _ _ p' with q|⟨rfl,rfl⟩
    · exact l _ _ h q d'
    · exact absurd d' (hn h)
  · refine .inr ⟨e,z,fun i' j' h p' d'=>?_⟩;rcases h2 _ _ p' with q|⟨rfl,rfl⟩
    · exact n _ _ h q d'
    · exact hn h d'
theorem Acc.keep (h:Acc a b P x true) (h1:∀ i j,P i j→P' i j) (h2:∀ i' j',P' i' j'→P i' j'∨(i'=i∧j'=j)) (hy:Dif a b i j y) (hl:∀ h,Dif a b i j h→¬ ltH h y) (hc:¬ ltH y x):Acc a b P' x true:=by
  have hx:=h.right rfl;rcases h with ⟨e,⟨i1,j1,p,d⟩,l⟩|⟨e,_,_⟩
  · refine .inl ⟨rfl,⟨i1,j1,h1 _ _ p,d⟩,fun i' j' h p' d'=>?_⟩;rcases h2 _ _ p' with q|⟨rfl,rfl⟩
    · exact l _ _ h q d'
    · intro hlt;rcases ycp hy.one.right hx with w|w|w
      · rw [w] at hl;exact hl h d' hlt
      · exact hc w
      · exact hl h d' (zyq hlt w)
  · cases e
theorem Acc.take (h:Acc a b P x f) (h1:∀ i j,P i j→P' i j) (h2:∀ i' j',P' i' j'→P i' j'∨(i'=i∧j'=j)) (hp:P' i j) (hy:Dif a b i j y) (hl:∀ h,Dif a b i j h→¬ ltH h y) (hc:f=true→ltH y x):Acc a b P' y true:=by
  refine .inl ⟨rfl,⟨i,j,hp,hy⟩,fun i' j' h' p' d'=>?_⟩;rcases h2 _ _ p' with q|⟨rfl,rfl⟩
  · rcases h with ⟨e,_,l⟩|⟨_,_,n⟩
    · exact fun hlt=>l _ _ h' q d' (zyq hlt (hc e))
    · exact absurd d' (n _ _ h' q)
  · exact hl h' d'
theorem Dif.symm {h:Ar 10} (d:Dif a b i j h):Dif b a j i h:=⟨fun ⟨p,q⟩=>d.ne ⟨p.symm,q.symm⟩,d.two,d.one⟩
def zod (a b:List Rule) (x:Ar 10) (f:Bool):Prop:=Acc a b (fun i j=>i<a.length∧j<b.length) x f
theorem zod.symm (h:zod a b x f):zod b a x f:=by
  rcases h with ⟨e,⟨i1,j1,p,d⟩,l⟩|⟨e,z,n⟩
  · exact .inl ⟨e,⟨j1,i1,⟨p.2,p.1⟩,d.symm⟩,fun i j h p d=>l j i h ⟨p.2,p.1⟩ d.symm⟩
  · exact .inr ⟨e,z,fun i j h p d=>n j i h ⟨p.2,p.1⟩ d.symm⟩
theorem U.step {n i j:Nat} (hj:j<n):(∀ i' j',U n i j i' j'→U n i (j+1) i' j')∧(∀ i' j',U n i (j+1) i' j'→U n i j i' j'∨(i'=i∧j'=j))∧U n i (j+1) i j:=by
  unfold U;refine ⟨fun i' j' h=>?_,fun i' j' h=>?_,?_⟩<;>omega
theorem Acc.row {n:Nat} (h:Acc a b (U n i n) x f):Acc a b (U n (i+1) 0) x f:=h.mono (fun i' j' h=>by unfold U at h ⊢;omega) fun i' j' h=>by unfold U at h ⊢;omega
theorem Acc.all (h:Acc a b (U b.length a.length 0) x f):zod a b x f:=h.mono (fun i' j' h=>by unfold U at h;exact ⟨by omega,h.1⟩) fun i' j' h=>by unfold U;exact ⟨h.2,by omega⟩
theorem Acc.zero:Acc a b (U b.length 0 0) (zA 10) false:=.inr ⟨rfl,rfl,fun i j h p=>by unfold U at p;omega⟩
theorem zwa {p q m:Pat} {l1 l2:List Pat} {h:Ar 10} (hm:Meet p q m) (ho:zcv p q=true):Out m (l1++l2) h↔Out p l1 h∧Out q l2 h:=by
  constructor
  · intro k;obtain ⟨k1,k2⟩:=(hm.match ho h).1 k.into;exact ⟨⟨k.right,k1,fun q hq=>k.no q (List.mem_append_left _ hq)⟩,⟨k.right,k2,fun q hq=>k.no q (List.mem_append_right _ hq)⟩⟩
  · rintro ⟨k1,k2⟩;exact ⟨k1.right,(hm.match ho h).2 ⟨k1.into,k2.into⟩,fun q hq=>(List.mem_append.1 hq).elim (k1.no q) (k2.no q)⟩
theorem yca {m:Pat} {r:Ar 10×Bool} (hne:¬ ybe (a.getD i default) (b.getD j default)) (hm:Meet (a.getD i default).mat (b.getD j default).mat m) (ho:zcv (a.getD i default).mat (b.getD j default).mat=true) (hr:Res m (bef a i++bef b j) r):(r.2=true∧Dif a b i j r.1∧∀ h,Dif a b i j h→¬ ltH h r.1)∨(r.2=false∧∀ h,¬ Dif a b i j h):=by
  rcases hr with ⟨e,q⟩|⟨e,q⟩
  · obtain ⟨o1,o2⟩:=(zwa hm ho).1 q.out;exact .inl ⟨e,⟨hne,o1,o2⟩,fun h d=>q.least h ((zwa hm ho).2 ⟨d.one,d.two⟩)⟩
  · exact .inr ⟨by rw [e],fun h d=>q h ((zwa hm ho).2 ⟨d.one,d.two⟩)⟩
theorem yhk (ho:zcv (a.getD i default).mat (b.getD j default).mat=false):∀ h,¬ Dif a b i j h:=fun h d=>by
  have:=zv9 d.one.into d.two.into;rw [ho] at this;cases this
theorem yhf {O:Pat→List Pat→Option (Ar 10×Bool)} {m:Pat} {l1 l2:List Pat} {n1:Nat} {r:Ar 10×Bool} (e:l1.length=n1) (hb:(n1+l2.length)*161≤1000000000) (h:O m (l1++l2)=some r):(if (n1+l2.length)*161≤1000000000 then (if l2.length=0 then (if l1.length=n1 then ((O m l1).bind fun r=>some (r.2,l1,n1,r.1)) else none) else (if (l1++l2).length=n1+l2.length then ((O m (l1++l2)).bind fun r2=>some (r2.2,l1++l2,n1+l2.length,r2.1)) else none)) else none)=some (r.2,l1++l2,n1+l2.length,r.1):=by
  rw [if_pos hb];by_cases c:l2.length=0
  · have:=List.eq_nil_of_length_eq_zero c;subst this;rw [List.append_nil] at h;rw [if_pos c,if_pos e,h,Option.bind_some,List.append_nil];rfl
  · rw [if_neg c,if_pos (by rw [List.length_append,e]),h,Option.bind_some]
theorem yb1 (r:Rule):(⟨r.prio,r.mat,r.step,r.outs⟩:Rule)=r:=rfl
theorem yjv {k:Nat} {h x:Ar 10} {f:Bool} (hh:zac h=true) (hx:f=true→zac x=true) (hk:10<k):∃ y,zd7 k h f x=some (true,y)∧((y=h∧(f=true→ltH h x))∨(f=true∧y=x∧¬ ltH h x)):=by
  unfold zd7
  cases f with
  |false=>exact ⟨h,by rw [if_neg (by simp)],.inl ⟨rfl,fun q=>by cases q⟩⟩
  |true =>
    obtain ⟨c,e,hc⟩:=zoa (k:=k) hh (hx rfl) hk;rw [if_pos rfl,e,Option.bind_some];by_cases q:c<0
    · exact ⟨h,by rw [if_pos q],.inl ⟨rfl,fun _=>hc.neg.1 q⟩⟩
    · exact ⟨x,by rw [if_neg q],.inr ⟨rfl,rfl,fun w=>q (hc.neg.2 w)⟩⟩
end
def rst:Rule:=⟨0,⟨zA 10,zA 10⟩,-1,[]⟩
section
variable {k:Nat} {t u a b:List Rule} {F:List Nat}
theorem z9d (ha:Lit a F) (i:Nat):(∀ q,q∈bef a i→zag q=true)∧∀ q,q∈bef a i→∀ j,j<160→hbit q.mask j=true→j∈F :=
  ⟨fun q hq=>by obtain ⟨r,hr,rfl⟩:=z04 hq;exact ha.right r hr,fun q hq=>by obtain ⟨r,hr,rfl⟩:=z04 hq;exact ha.mask r hr⟩
theorem yi5 (ea:t++[(⟨0,(⟨(zA 10),(zA 10)⟩:Pat),(-1),[]⟩:Rule)]=a) (eb:u++[(⟨0,(⟨(zA 10),(zA 10)⟩:Pat),(-1),[]⟩:Rule)]=b) (ha:Lit a F) (hb:Lit b F) (la:a.length≤400) (lb:b.length≤400) (oa:∀ r,r∈a→zq4 r) (hk:big≤k) {i:Nat} (hi:i<a.length):∀ (m j:Nat) (x:Ar 10) (f:Bool),j≤b.length→b.length - j<m→Acc a b (U b.length i j) x f→∃ x' f',za3 k t u (i:Int) m (j:Int) x f=some (x',f')∧Acc a b (U b.length (i+1) 0) x' f':=by
  have hk10:10<k:=Nat.lt_of_lt_of_le (by decide) hk;intro m
  induction m with
  |zero=>intro j x f h1 h2;omega
  |succ m ih =>
    intro j x f h1 h2 hA;rw [za3];simp only [ea,eb,yb1];by_cases c:j<b.length
    · have hp:=ha.right _ (zlc hi);have hq:=hb.right _ (zlc c);obtain ⟨u1,u2,u3⟩:=U.step (i:=i) c;rw [if_pos (zav c),if_pos ⟨by omega,zav c⟩,zo0,zo0,z0e _ _ (oa _ (zlc hi)) hk,Option.bind_some,zce j (by omega)];by_cases al:ybe (a.getD i default) (b.getD j default)
      · rw [if_pos (decide_eq_true al)];exact ih (j+1) x f (by omega) (by omega) (hA.none u1 u2 fun h d=>d.ne al)
      · rw [if_neg (by rw [decide_eq_true_eq];exact al)];obtain ⟨r,e,hr⟩:=ydo (k:=k) hp hq hk10;rw [e,Option.bind_some];rcases hr with ⟨ho,h2⟩|⟨ho,h2,hm⟩
        · rw [h2,if_neg (by simp)];exact ih (j+1) x f (by omega) (by omega) (hA.none u1 u2 (yhk ho))
        · obtain ⟨l1,l2⟩:=z9d ha i;obtain ⟨l3,l4⟩:=z9d hb j;have b1:=zl5 (t:=a) (i:=i) (by omega);have b2:=zl5 (t:=b) (i:=j) (by omega);obtain ⟨s,e2,hs⟩:=zz3 hk (hm.right hp hq) (l:=bef a i++bef b j) (fun q h=>(List.mem_append.1 h).elim (l1 q) (l3 q)) (by rw [List.length_append];omega);have er:=yhf (O:=zc3 k) (n1:=i) b1 (by omega) e2;rw [h2,if_pos rfl,zsf a i (by omega) (by omega) hk,Option.bind_some,zxe b j (by omega) (by omega) hk,Option.bind_some];dsimp only;rw [er,Option.bind_some];rcases yca al hm ho hs with ⟨q1,q2,q3⟩|⟨q1,q2⟩
          · rw [if_pos q1];obtain ⟨y,ey,hy⟩:=yjv (k:=k) (f:=f) q2.one.right hA.right hk10;dsimp only;rw [ey,Option.bind_some];refine ih (j+1) y true (by omega) (by omega) ?_;rcases hy with ⟨rfl,hc⟩|⟨rfl,rfl,hc⟩
            · exact hA.take u1 u2 u3 q2 q3 hc
            · exact hA.keep u1 u2 q2 q3 hc
          · rw [if_neg (by rw [q1];simp)];exact ih (j+1) x f (by omega) (by omega) (hA.none u1 u2 q2)
    · obtain rfl:j=b.length:=by omega
      rw [if_neg (by omega)];exact ⟨x,f,rfl,hA.row⟩
theorem yi6 (ea:t++[(⟨0,(⟨(zA 10),(zA 10)⟩:Pat),(-1),[]⟩:Rule)]=a) (eb:u++[(⟨0,(⟨(zA 10),(zA 10)⟩:Pat),(-1),[]⟩:Rule)]=b) (ha:Lit a F) (hb:Lit b F) (la:a.length≤400) (lb:b.length≤400) (oa:∀ r,r∈a→zq4 r) (hk:big≤k):∀ (m i:Nat) (x:Ar 10) (f:Bool),i≤a.length→a.length - i<m→Acc a b (U b.length i 0) x f→∃ x' f',zb8 k t u m (i:Int) x f=some (x',f')∧zod a b x' f':=by
  intro m
  induction m with
  |zero=>intro i x f h1 h2;omega
  |succ m ih =>
    intro i x f h1 h2 hA;rw [zb8];simp only [ea];by_cases c:i<a.length
    · obtain ⟨x1,f1,e,h⟩:=yi5 ea eb ha hb la lb oa hk c k 0 x f (Nat.zero_le _) (by simp only [big] at hk;omega) hA;change za3 k t u (i:Int) k 0 x f=_ at e;rw [if_pos (zav c),if_pos ⟨by omega,zav c⟩,e,Option.bind_some,Option.bind_some,zce i (by omega)];exact ih (i+1) x1 f1 (by omega) (by omega) h
    · obtain rfl:i=a.length:=by omega
      rw [if_neg (by omega)];exact ⟨x,f,rfl,hA.all⟩
theorem z9c (ht:Lit t F) (hl:t.length≤300):Lit (t++[rst]) F:=by
  refine ⟨by rw [List.length_append,List.length_singleton];omega,fun r hr=>?_,ht.few,fun r hr j hj h=>?_⟩
  · rcases List.mem_append.1 hr with q|q
    · exact ht.right r q
    · cases List.mem_singleton.1 q;decide
  · rcases List.mem_append.1 hr with q|q
    · exact ht.mask r q j hj h
    · cases List.mem_singleton.1 q
      have:hbit (zA 10) j=false:=by
        have z:∀ s,s<10→hw (zA 10) s=0:=by decide
        unfold hbit;rw [z (j / 16) (by omega)];exact Nat.zero_testBit _
      rw [show hbit rst.mat.mask j=hbit (zA 10) j from rfl,this] at h;cases h
theorem yjm (ht:z01 t):∀ r,r∈t++[rst]→zq4 r:=fun r hr=>by
  rcases List.mem_append.1 hr with q|q
  · exact ht.2 r q
  · cases List.mem_singleton.1 q;exact ⟨by decide,fun l hl=>by cases hl⟩
theorem z0f (ht:Lit t F) (hu:Lit u F) (lt:t.length≤300) (lu:u.length≤300) (ot:z01 t) (hk:big≤k):∃ x f,zgu k t u=some (x,!f)∧zod (t++[rst]) (u++[rst]) x f:=by
  obtain ⟨x,f,e,h⟩:=yi6 (t:=t) (u:=u) rfl rfl (z9c ht lt) (z9c hu lu) (by simp;omega) (by simp;omega) (yjm ot) hk k 0 (zA 10) false (Nat.zero_le _) (by simp only [big] at hk;rw [List.length_append,List.length_singleton];omega) Acc.zero;refine ⟨x,f,?_,h⟩;unfold zgu;change zb8 k t u k 0 (zA 10) false=_ at e;rw [if_pos (by omega),if_pos (by omega),if_pos (by omega),if_pos (by omega),if_pos (by rw [List.length_append,List.length_singleton]),if_pos (by rw [List.length_append,List.length_singleton]),e];rfl
end
end
section
open Go Go.RowKit
theorem ycq (t:List Rule) (h:Ar 10):(yhq t h=-1∧t.find? (fun r=>za5 r.mat h)=none)∨∃ i:Nat,∃ hi:i<t.length,yhq t h=(i:Int)∧t.find? (fun r=>za5 r.mat h)=some t[i]∧za5 t[i].mat h=true∧∀ j (hj:j<t.length),j<i→za5 t[j].mat h=false:=by
  unfold yhq;rcases z39 (fun r:Rule=>za5 r.mat h) t with ⟨e1,e2⟩|⟨i,hi,e1,e2⟩
  · exact .inl ⟨e2,e1⟩
  · refine .inr ⟨i,hi,e1,e2,?_⟩;unfold idxB at e1
    cases hf:t.findIdx? (fun r:Rule=>za5 r.mat h) with
    |none=>rw [hf] at e1;simp only at e1;omega
    |some s =>
      rw [hf] at e1;simp only at e1;obtain rfl:s=i:=by omega
      obtain ⟨h1,h2,h3⟩:=List.findIdx?_eq_some_iff_getElem.1 hf;exact ⟨h2,fun j hj hji=>by simpa using h3 j hji⟩
theorem zly {t:List Rule} {i:Nat} (hi:i≤t.length) {q:Pat}:q∈bef t i↔∃ j,∃ hj:j<t.length,j<i∧t[j].mat=q:=by
  unfold bef;rw [List.mem_map];constructor
  · rintro ⟨r,hr,rfl⟩;obtain ⟨j,hj,rfl⟩:=List.getElem_of_mem hr;rw [List.length_take] at hj;exact ⟨j,by omega,by omega,by rw [List.getElem_take]⟩
  · rintro ⟨j,hj,hji,rfl⟩;exact ⟨t[j],by rw [List.mem_take_iff_getElem];exact ⟨j,by omega,rfl⟩,rfl⟩
theorem yhl {t:List Rule} {i:Nat} (hi:i<t.length) {h:Ar 10}:Out t[i].mat (bef t i) h↔zac h=true∧za5 t[i].mat h=true∧∀ j (hj:j<t.length),j<i→za5 t[j].mat h=false:=by
  constructor
  · rintro ⟨a,b,c⟩;exact ⟨a,b,fun j hj hji=>c _ ((zly (by omega)).2 ⟨j,hj,hji,rfl⟩)⟩
  · rintro ⟨a,b,c⟩;refine ⟨a,b,fun q hq=>?_⟩;obtain ⟨j,hj,hji,rfl⟩:=(zly (by omega)).1 hq;exact c j hj hji
end
section
open Go Go.RowKit
set_option maxRecDepth 100000
end
section
open Go Go.RowKit
set_option maxRecDepth 100000
def zby (k:Nat) (n:Net) (t:List Rule) (k_:Int):Option Bool:=((((zmo k n [t]).bind fun rright=>(if rright=true then (if k_<0 then some true else (if (IntKind.i64.wrap ((t.length:Int) - 1))≤k_ then some true else (if (0:Int)≤k_∧k_<(t.length:Int) then (if (0:Int)≤(IntKind.i64.wrap (k_+1))∧(IntKind.i64.wrap (k_+1))<(t.length:Int) then ((zgv k ((gx t k_).mat) ((gx t (IntKind.i64.wrap (k_+1))).mat)).bind fun rOverlap=>some rOverlap) else none) else none))) else some true)):Option Bool).bind fun s_=>(if s_=true then some true else (((if (0+t.length)*201≤1000000000 then (if t.length=0 then some ([],0) else some (t,t.length)) else none):Option (List Rule×Nat)).bind fun s_2=>(if (0:Int)≤(IntKind.i64.wrap (k_+1))∧(IntKind.i64.wrap (k_+1))<(t.length:Int) then (if (0:Int)≤k_∧k_<(t.length:Int) then (if (0:Int)≤k_∧k_<(s_2.2:Int) then (if k_.toNat<s_2.1.length then (if (0:Int)≤(IntKind.i64.wrap (k_+1))∧(IntKind.i64.wrap (k_+1))<(s_2.2:Int) then (if (IntKind.i64.wrap (k_+1)).toNat<(s_2.1.set k_.toNat (gx t (IntKind.i64.wrap (k_+1)))).length then (if k_.toNat<((s_2.1.set k_.toNat (gx t (IntKind.i64.wrap (k_+1)))).set (IntKind.i64.wrap (k_+1)).toNat (gx t k_)).length then (if (IntKind.i64.wrap (k_+1)).toNat<(((s_2.1.set k_.toNat (gx t (IntKind.i64.wrap (k_+1)))).set (IntKind.i64.wrap (k_+1)).toNat (gx t k_)).set k_.toNat ({ ((s_2.1.set k_.toNat (gx t (IntKind.i64.wrap (k_+1)))).set (IntKind.i64.wrap (k_+1)).toNat (gx t k_)).getD k_.toNat default with prio:=(gx t k_).prio })).length then (if ((((s_2.1.set k_.toNat (gx t (IntKind.i64.wrap (k_+1)))).set (IntKind.i64.wrap (k_+1)).toNat (gx t k_)).set k_.toNat ({ ((s_2.1.set k_.toNat (gx t (IntKind.i64.wrap (k_+1)))).set (IntKind.i64.wrap (k_+1)).toNat (gx t k_)).getD k_.toNat default with prio:=(gx t k_).prio })).set (IntKind.i64.wrap (k_+1)).toNat ({ (((s_2.1.set k_.toNat (gx t (IntKind.i64.wrap (k_+1)))).set (IntKind.i64.wrap (k_+1)).toNat (gx t k_)).set k_.toNat ({ ((s_2.1.set k_.toNat (gx t (IntKind.i64.wrap (k_+1)))).set (IntKind.i64.wrap (k_+1)).toNat (gx t k_)).getD k_.toNat default with prio:=(gx t k_).prio })).getD (IntKind.i64.wrap (k_+1)).toNat default with prio:=(gx t (IntKind.i64.wrap (k_+1))).prio })).length=s_2.2 then ((zgu k t ((((s_2.1.set k_.toNat (gx t (IntKind.i64.wrap (k_+1)))).set (IntKind.i64.wrap (k_+1)).toNat (gx t k_)).set k_.toNat ({ ((s_2.1.set k_.toNat (gx t (IntKind.i64.wrap (k_+1)))).set (IntKind.i64.wrap (k_+1)).toNat (gx t k_)).getD k_.toNat default with prio:=(gx t k_).prio })).set (IntKind.i64.wrap (k_+1)).toNat ({ (((s_2.1.set k_.toNat (gx t (IntKind.i64.wrap (k_+1)))).set (IntKind.i64.wrap (k_+1)).toNat (gx t k_)).set k_.toNat ({ ((s_2.1.set k_.toNat (gx t (IntKind.i64.wrap (k_+1)))).set (IntKind.i64.wrap (k_+1)).toNat (gx t k_)).getD k_.toNat default with prio:=(gx t k_).prio })).getD (IntKind.i64.wrap (k_+1)).toNat default with prio:=(gx t (IntKind.i64.wrap (k_+1))).prio }))).bind fun rEqual=>some rEqual.2) else none) else none) else none) else none) else none) else none) else none) else none) else none))))
set_option maxHeartbeats 8000000 in
theorem zig (ax:Axs) (hx:zcs ax) (k:Nat) (n:Net) (t:List Rule) (k_:Int) (v:Bool) (H:zby k n t k_=some v):Pure Tryz.prog (EE ax) [] 7 [eNet n,zbd t,.int .i64 k_] (.bool v):=by
 rw [zby] at H;refine en [.tmp 6] 90 [0,1,2] (hx.no _ (by decide)) (fn7 ax) ?_;intro h hh;repeat apply TW.seq
 refine rk [1,2,3] [] hh ?_;clear hh h;intro h hh;obtain ⟨s_,H1,H⟩:=zaf H;repeat apply TW.seq
 refine cu [1,2,39] 1 (fun h bs=>(h 1=zbd t∧h 2=.int .i64 k_∧h 39=.bool s_)∧bs=[.cells true 3 [za8 n.nodes,za9 n.links,zba n.edges]]) ?_ ?_
 ·skip;obtain ⟨rright,e1,H1⟩:=zaf H1;rcases isb H1 with ⟨c2,H1⟩|⟨c2,H1⟩;rotate_left
  ·skip;repeat apply TW.seq
   refine dk 28 [1,2,39] [.bool rright] [] [] (f3 hh c2 (yc6 ax)) ?_ trivial ?_
   ·exact ⟨Pure.clr (zji ax hx k n [t] rright e1 ) (by first|rfl|simp only [c2]),trivial⟩
   clear hh h;intro h hh;cases H1;exact ce hh ⟨kq hh,rfl⟩
  rcases isp H1 with ⟨c3,H1⟩|⟨c3,H1⟩;rotate_left
  ·skip;rcases isp H1 with ⟨c4,H1⟩|⟨c4,H1⟩;rotate_left
   ·skip;obtain ⟨g5,H1⟩:=isg H1;obtain ⟨g6,H1⟩:=isg H1;obtain ⟨rOverlap,e7,H1⟩:=zaf H1;repeat apply TW.seq
    refine dk 28 [1,2,39] [.bool rright] [] [(.bool rOverlap,stL [.cells true 3 [za8 n.nodes,za9 n.links,zba n.edges]])] (f3 hh c2 (f3 (decide_eq_false c3) (decide_eq_false c4) (f3 (zar g5) (zar g6) (yc6 ax)))) ?_ ?_ ?_
    ·exact ⟨Pure.clr (zji ax hx k n [t] rright e1 ) (by first|rfl|simp only [c2]),trivial⟩
    ·exact ⟨za4.call (Pure.clr (zqf ax hx k ((gx t k_).mat) ((gx t (IntKind.i64.wrap (k_+1))).mat) rOverlap e7 ) (by first|rfl|simp only [c2])),trivial⟩
    clear hh h;intro h hh;cases H1;exact ce hh ⟨kq hh,rfl⟩
   repeat apply TW.seq
   refine dk 28 [1,2,39] [.bool rright] [] [] (f3 hh c2 (f3 (decide_eq_false c3) (decide_eq_true c4) (yc6 ax))) ?_ trivial ?_
   ·exact ⟨Pure.clr (zji ax hx k n [t] rright e1 ) (by first|rfl|simp only [c2]),trivial⟩
   clear hh h;intro h hh;cases H1;exact ce hh ⟨kq hh,rfl⟩
  repeat apply TW.seq
  refine dk 28 [1,2,39] [.bool rright] [] [] (f3 hh c2 (f2 (decide_eq_true c3) (yc6 ax))) ?_ trivial ?_
  ·exact ⟨Pure.clr (zji ax hx k n [t] rright e1 ) (by first|rfl|simp only [c2]),trivial⟩
  clear hh h;intro h hh;cases H1;exact ce hh ⟨kq hh,rfl⟩
 clear hh h;rintro h bs ⟨hh,rfl⟩;rcases isb H with ⟨c8,H⟩|⟨c8,H⟩;rotate_left
 ·skip;repeat apply TW.seq
  refine cf (f2 hh c8) ?_;repeat apply TW.seq
  refine sk ?_;obtain ⟨s_2,H1,H⟩:=zaf H;repeat apply TW.seq
  refine cu [1,2,7] 2 (fun h bs=>∃ z9,(h 1=zbd t∧h 2=.int .i64 k_∧h 7=.arr 1 23 0 s_2.2 s_2.2 (s_2.2*23))∧bs=[.cells true 3 [za8 n.nodes,za9 n.links,zba n.edges],.cells z9 (s_2.2*23) (vecC zaz s_2.1)]) ?_ ?_
  ·skip;obtain ⟨g10,H1⟩:=isg H1;rcases isp H1 with ⟨c11,H1⟩|⟨c11,H1⟩;rotate_left
   ·skip;repeat apply TW.seq
    refine rg [41] [] [.cells true 3 [za8 n.nodes,za9 n.links,zba n.edges],.cells false (t.length*23) (vecC zaz t)] (fun h=>h 1=zbd t∧h 2=.int .i64 k_∧h 7=.arr 1 23 0 t.length t.length (t.length*23)) (f3 hh c8 (f3 (zhd zaz t) (zey (f:=zaz) (e:=23) (fun x=>za6 x) t) (f3 (zgq (f:=zaz) (fun x=>zhy x) t) (el28 ax) (sr28 ax)))) trivial ?_;clear hh h;intro h hh;cases H1;exact ce hh ⟨_,kq hh,rfl⟩
   repeat apply TW.seq
   refine rg [41] [] [.cells true 3 [za8 n.nodes,za9 n.links,zba n.edges],.cells true 0 (vecC zaz [])] (fun h=>h 1=zbd t∧h 2=.int .i64 k_∧h 7=.arr 1 23 0 0 0 0) (f3 hh c8 (f3 c11 (zhd zaz t) (f3 (zey (f:=zaz) (e:=23) (fun x=>za6 x) t) (zgq (f:=zaz) (fun x=>zhy x) t) (f2 (el28 ax) (sr28 ax))))) trivial ?_;clear hh h;intro h hh;cases H1;exact ce hh ⟨_,kq hh,rfl⟩
  clear hh h;rintro h bs ⟨z9,hh,rfl⟩;refine uz 1 ?_;obtain ⟨g12,H⟩:=isg H;obtain ⟨g13,H⟩:=isg H;obtain ⟨g14,H⟩:=isg H;obtain ⟨g15,H⟩:=isg H;obtain ⟨g16,H⟩:=isg H;obtain ⟨g17,H⟩:=isg H;repeat apply TW.seq
  refine dk 14 [1,2,7] [] [] [] (f3 hh c8 (f3 (zar g12) (zar g13) (f2 (show spl (vecC zaz s_2.1) (k_.toNat*23) (T.int .i64 ((gx t (IntKind.i64.wrap (k_+1))).prio) :: ((((gx t (IntKind.i64.wrap (k_+1))).mat).mask).l.map (T.int .i64)++((((gx t (IntKind.i64.wrap (k_+1))).mat).bits).l.map (T.int .i64)++[T.int .i64 ((gx t (IntKind.i64.wrap (k_+1))).step),T.lst 1 (((gx t (IntKind.i64.wrap (k_+1))).outs).map lAlt)])))=_ from zmc zaz 23 (gx t (IntKind.i64.wrap (k_+1))) (fun x=>za6 x) g15) (show spl (vecC zaz (s_2.1.set k_.toNat (gx t (IntKind.i64.wrap (k_+1))))) ((IntKind.i64.wrap (k_+1)).toNat*23) (T.int .i64 ((gx t k_).prio) :: ((((gx t k_).mat).mask).l.map (T.int .i64)++((((gx t k_).mat).bits).l.map (T.int .i64)++[T.int .i64 ((gx t k_).step),T.lst 1 (((gx t k_).outs).map lAlt)])))=_ from zmc zaz 23 (gx t k_) (fun x=>za6 x) g17)))) trivial trivial ?_;clear hh h;intro h hh;obtain ⟨g18,H⟩:=isg H;obtain ⟨g19,H⟩:=isg H;repeat apply TW.seq
  refine dk 16 [1,7] [] [] [] (f3 hh c8 (f3 (zar g13) (zar g12) (f2 (zsx zaz 23 ({ ((s_2.1.set k_.toNat (gx t (IntKind.i64.wrap (k_+1)))).set (IntKind.i64.wrap (k_+1)).toNat (gx t k_)).getD k_.toNat default with prio:=(gx t k_).prio }) (fun x=>za6 x) (by decide) g18 (by rfl)) (zsx zaz 23 ({ (((s_2.1.set k_.toNat (gx t (IntKind.i64.wrap (k_+1)))).set (IntKind.i64.wrap (k_+1)).toNat (gx t k_)).set k_.toNat ({ ((s_2.1.set k_.toNat (gx t (IntKind.i64.wrap (k_+1)))).set (IntKind.i64.wrap (k_+1)).toNat (gx t k_)).getD k_.toNat default with prio:=(gx t k_).prio })).getD (IntKind.i64.wrap (k_+1)).toNat default with prio:=(gx t (IntKind.i64.wrap (k_+1))).prio }) (fun x=>za6 x) (by decide) g19 (by rfl))))) trivial trivial ?_;clear hh h;intro h hh;obtain ⟨g20,H⟩:=isg H;obtain ⟨rEqual,e21,H⟩:=zaf H;repeat apply TW.seq
  refine rkc [9] [] [(.tup [.agg (rEqual.1.l.map (T.int .i64)),.bool rEqual.2],stL [.cells true 3 [za8 n.nodes,za9 n.links,zba n.edges],.cells false (s_2.2*23) (vecC zaz ((((s_2.1.set k_.toNat (gx t (IntKind.i64.wrap (k_+1)))).set (IntKind.i64.wrap (k_+1)).toNat (gx t k_)).set k_.toNat ({ ((s_2.1.set k_.toNat (gx t (IntKind.i64.wrap (k_+1)))).set (IntKind.i64.wrap (k_+1)).toNat (gx t k_)).getD k_.toNat default with prio:=(gx t k_).prio })).set (IntKind.i64.wrap (k_+1)).toNat ({ (((s_2.1.set k_.toNat (gx t (IntKind.i64.wrap (k_+1)))).set (IntKind.i64.wrap (k_+1)).toNat (gx t k_)).set k_.toNat ({ ((s_2.1.set k_.toNat (gx t (IntKind.i64.wrap (k_+1)))).set (IntKind.i64.wrap (k_+1)).toNat (gx t k_)).getD k_.toNat default with prio:=(gx t k_).prio })).getD (IntKind.i64.wrap (k_+1)).toNat default with prio:=(gx t (IntKind.i64.wrap (k_+1))).prio })))])] (f2 hh c8) ?_ ?_
  ·exact ⟨(by have q:=za4.call (Pure.lend (S:=stL [.cells true 3 [za8 n.nodes,za9 n.links,zba n.edges],.cells false (s_2.2*23) (vecC zaz ((((s_2.1.set k_.toNat (gx t (IntKind.i64.wrap (k_+1)))).set (IntKind.i64.wrap (k_+1)).toNat (gx t k_)).set k_.toNat ({ ((s_2.1.set k_.toNat (gx t (IntKind.i64.wrap (k_+1)))).set (IntKind.i64.wrap (k_+1)).toNat (gx t k_)).getD k_.toNat default with prio:=(gx t k_).prio })).set (IntKind.i64.wrap (k_+1)).toNat ({ (((s_2.1.set k_.toNat (gx t (IntKind.i64.wrap (k_+1)))).set (IntKind.i64.wrap (k_+1)).toNat (gx t k_)).set k_.toNat ({ ((s_2.1.set k_.toNat (gx t (IntKind.i64.wrap (k_+1)))).set (IntKind.i64.wrap (k_+1)).toNat (gx t k_)).getD k_.toNat default with prio:=(gx t k_).prio })).getD (IntKind.i64.wrap (k_+1)).toNat default with prio:=(gx t (IntKind.i64.wrap (k_+1))).prio })))]) (args:=[zbd t,.arr 1 23 0 s_2.2 s_2.2 (s_2.2*23)]) (zqd ax hx k t ((((s_2.1.set k_.toNat (gx t (IntKind.i64.wrap (k_+1)))).set (IntKind.i64.wrap (k_+1)).toNat (gx t k_)).set k_.toNat ({ ((s_2.1.set k_.toNat (gx t (IntKind.i64.wrap (k_+1)))).set (IntKind.i64.wrap (k_+1)).toNat (gx t k_)).getD k_.toNat default with prio:=(gx t k_).prio })).set (IntKind.i64.wrap (k_+1)).toNat ({ (((s_2.1.set k_.toNat (gx t (IntKind.i64.wrap (k_+1)))).set (IntKind.i64.wrap (k_+1)).toNat (gx t k_)).set k_.toNat ({ ((s_2.1.set k_.toNat (gx t (IntKind.i64.wrap (k_+1)))).set (IntKind.i64.wrap (k_+1)).toNat (gx t k_)).getD k_.toNat default with prio:=(gx t k_).prio })).getD (IntKind.i64.wrap (k_+1)).toNat default with prio:=(gx t (IntKind.i64.wrap (k_+1))).prio })) rEqual e21 ) (And.intro (Or.inl rfl) (And.intro (zpp (fun x=>za6 x) (by decide) (by rfl) g20) (trivial))) (by first|rfl | (simp only [tupT,T.flat,T.flatL,zwr,zia,Bool.and_self];done)));(try simp only [c8] at q);exact q),trivial⟩
  clear hh h;intro h hh;repeat apply TW.seq
  refine rkc [6] [] [(.bool true,stL [.cells true 3 [za8 n.nodes,za9 n.links,zba n.edges],.cells false (s_2.2*23) (vecC zaz ((((s_2.1.set k_.toNat (gx t (IntKind.i64.wrap (k_+1)))).set (IntKind.i64.wrap (k_+1)).toNat (gx t k_)).set k_.toNat ({ ((s_2.1.set k_.toNat (gx t (IntKind.i64.wrap (k_+1)))).set (IntKind.i64.wrap (k_+1)).toNat (gx t k_)).getD k_.toNat default with prio:=(gx t k_).prio })).set (IntKind.i64.wrap (k_+1)).toNat ({ (((s_2.1.set k_.toNat (gx t (IntKind.i64.wrap (k_+1)))).set (IntKind.i64.wrap (k_+1)).toNat (gx t k_)).set k_.toNat ({ ((s_2.1.set k_.toNat (gx t (IntKind.i64.wrap (k_+1)))).set (IntKind.i64.wrap (k_+1)).toNat (gx t k_)).getD k_.toNat default with prio:=(gx t k_).prio })).getD (IntKind.i64.wrap (k_+1)).toNat default with prio:=(gx t (IntKind.i64.wrap (k_+1))).prio }))),.cells true 10 (rEqual.1.l.map (T.int .i64))])] (f2 hh c8) ?_ ?_
  ·exact ⟨za4.call (Pure.clr hx.san (by first|rfl|simp only [c8])),trivial⟩
  clear hh h;intro h hh;cases H;exact rt hh
 repeat apply TW.seq
 refine ct (f2 hh c8) ?_;repeat apply TW.seq
 refine rkc [6] [] [(.bool true,stL [.cells true 3 [za8 n.nodes,za9 n.links,zba n.edges]])] (f2 hh c8) ?_ ?_
 ·exact ⟨za4.call (Pure.clr hx.san (by first|rfl|simp only [c8])),trivial⟩
 clear hh h;intro h hh;cases H;exact rt hh
end
section
open Go Go.RowKit
def hd (t:List Rule) (h:Ar 10):Int×List (List Alt):=match t.find? (fun r=>za5 r.mat h) with|some r=>(r.step,r.outs)|none=>(-1,[])
theorem zn1 (t:List Rule) {h:Ar 10} (hh:zac h=true):∃ i,i<(t++[rst]).length∧Out ((t++[rst]).getD i default).mat (bef (t++[rst]) i) h∧((t++[rst]).getD i default).step=(hd t h).1∧((t++[rst]).getD i default).outs=(hd t h).2:=by
  have hb:∀ i,i≤t.length→bef (t++[rst]) i=bef t i:=fun i hi=>by unfold bef;rw [List.take_append_of_le_length hi]
  have hr:za5 rst.mat h=true:=za1.2 fun i hi hm=>by
    have z:∀ s,s<10→hw (zA 10) s=0:=by decide
    have:hbit rst.mat.mask i=false:=by
      show hbit (zA 10) i=false;unfold hbit;rw [z (i / 16) (by omega)];exact Nat.zero_testBit _
    rw [this] at hm;cases hm
  unfold hd;rcases ycq t h with ⟨_,e⟩|⟨i,hi,_,e,hm,hn⟩
  · refine ⟨t.length,by rw [List.length_append,List.length_singleton];omega,?_,?_⟩
    · rw [List.getD_eq_getElem?_getD,List.getElem?_append_right (Nat.le_refl _),Nat.sub_self];refine ⟨hh,hr,fun q hq=>?_⟩;rw [hb _ (Nat.le_refl _)] at hq;obtain ⟨r,hr,rfl⟩:=z04 hq;have:=List.find?_eq_none.1 e r hr;simpa using this
    · rw [List.getD_eq_getElem?_getD,List.getElem?_append_right (Nat.le_refl _),Nat.sub_self,e];exact ⟨rfl,rfl⟩
  · have eg:(t++[rst]).getD i default=t[i]:=by rw [List.getD_eq_getElem?_getD,List.getElem?_append_left hi,List.getElem?_eq_getElem hi];rfl
    refine ⟨i,by rw [List.length_append,List.length_singleton];omega,?_,?_⟩
    · rw [eg,hb _ (by omega)];exact (yhl hi).2 ⟨hh,hm,hn⟩
    · rw [eg,e];exact ⟨rfl,rfl⟩
theorem z8q {a:List Rule} {i j:Nat} {h:Ar 10} (hi:i<a.length) (hj:j<a.length) (k1:Out (a.getD i default).mat (bef a i) h) (k2:Out (a.getD j default).mat (bef a j) h):i=j:=by
  have key:∀ {i j:Nat},i<a.length→i<j→j<a.length→Out (a.getD i default).mat (bef a i) h→Out (a.getD j default).mat (bef a j) h→False:=fun {i j} hi hij hj k1 k2=>by
    have:=k2.no _ ((zly (by omega)).2 ⟨i,hi,hij,rfl⟩);have e:=k1.into;rw [List.getD_eq_getElem?_getD,List.getElem?_eq_getElem hi] at e;rw [show (some a[i]).getD default=a[i] from rfl,this] at e;cases e
  rcases Nat.lt_trichotomy i j with c|c|c
  · exact (key hi c hj k1 k2).elim
  · exact c
  · exact (key hj c hi k2 k1).elim
theorem zod.same {t u:List Rule} {x:Ar 10} (h:zod (t++[rst]) (u++[rst]) x false) {y:Ar 10} (hy:zac y=true):hd t y=hd u y:=by
  obtain ⟨i,hi,o1,s1,w1⟩:=zn1 t hy;obtain ⟨j,hj,o2,s2,w2⟩:=zn1 u hy;rcases h with ⟨e,_,_⟩|⟨_,_,n⟩
  · cases e
  · refine Classical.byContradiction fun hne=>n i j y ⟨hi,hj⟩ ⟨fun q=>hne ?_,o1,o2⟩;exact Prod.ext (s1.symm.trans (q.1.trans s2)) (w1.symm.trans (q.2.trans w2))
theorem zod.differ {t u:List Rule} {x:Ar 10} (h:zod (t++[rst]) (u++[rst]) x true):zac x=true∧hd t x≠hd u x∧∀ y,zac y=true→ltH y x→hd t y=hd u y:=by
  rcases h with ⟨_,⟨i,j,⟨hi,hj⟩,d⟩,l⟩|⟨e,_,_⟩
  · refine ⟨d.one.right,fun e=>d.ne ?_,fun y hy hlt=>?_⟩
    · obtain ⟨i',hi',o1,s1,w1⟩:=zn1 t d.one.right;obtain ⟨j',hj',o2,s2,w2⟩:=zn1 u d.one.right;obtain rfl:=z8q hi hi' d.one o1;obtain rfl:=z8q hj hj' d.two o2;exact ⟨by rw [s1,s2,e],by rw [w1,w2,e]⟩
    · obtain ⟨i',hi',o1,s1,w1⟩:=zn1 t hy;obtain ⟨j',hj',o2,s2,w2⟩:=zn1 u hy;refine Classical.byContradiction fun hne=>l i' j' y ⟨hi',hj'⟩ ⟨fun q=>hne ?_,o1,o2⟩ hlt;exact Prod.ext (s1.symm.trans (q.1.trans s2)) (w1.symm.trans (q.2.trans w2))
  · cases e
theorem zod.of_same {t u:List Rule} {x:Ar 10} {f:Bool} (h:zod (t++[rst]) (u++[rst]) x f) (hs:∀ y,zac y=true→hd t y=hd u y):f=false:=by
  cases f with
  |false=>rfl
  |true =>
    obtain ⟨h1,h2,_⟩:=zod.differ h;exact absurd (hs x h1) h2
theorem yhx (p q:List Rule) (r s:Rule) (x y:Int) {h:Ar 10} (hrs:zcv r.mat s.mat=false):hd (p++r :: s :: q) h=hd (p++{ s with prio:=x } :: { r with prio:=y } :: q) h:=by
  unfold hd;rw [List.find?_append,List.find?_append]
  cases List.find? (fun r=>za5 r.mat h) p with
  |some z=>rfl
  |none =>
    simp only [Option.none_or,List.find?_cons]
    cases hr:za5 r.mat h with
    |true =>
      cases hs:za5 s.mat h with
      |true=>rw [zv9 hr hs] at hrs;cases hrs
      |false=>rfl
    |false =>
      cases hs:za5 s.mat h with
      |true=>rfl
      |false=>rfl
theorem zwj (n:Net) (t:List Rule) (kk:Int) (hn:Held n) (ht:z01 t):∃ k,zby k n t kk=some true:=by
  refine ⟨big,?_⟩;generalize hk0:big=k;have hk:big≤k:=Nat.le_of_eq hk0;have hk160:160<k:=Nat.lt_of_lt_of_le (by decide) hk;unfold zby;obtain ⟨b,eb,hb⟩:=z5i hk n hn [t] (fun x hx=>by cases List.mem_singleton.1 hx;exact ht) (by simp);rw [eb,Option.bind_some]
  cases b with
  |false=>rfl
  |true =>
    obtain ⟨_,hall,F,hL⟩:=hb rfl;have ef:([t]:List (List Rule)).flatten=t:=by simp
    rw [ef] at hL;have lt:=(hall t (by simp)).1;rw [if_pos rfl];by_cases c1:kk<0
    · rw [if_pos c1];rfl
    · rw [if_neg c1];have w1:IntKind.i64.wrap ((t.length:Int) - 1)=(t.length:Int) - 1:=by rw [wr64 (by omega)]
      rw [w1];by_cases c2:(t.length:Int) - 1≤kk
      · rw [if_pos c2];rfl
      · obtain ⟨i,rfl⟩:=Int.eq_ofNat_of_zero_le (show 0≤kk by omega);have h1:i<t.length:=by omega
        have h2:i+1<t.length:=by omega
        have hp1:=hL.right _ (List.getElem_mem h1);have hp2:=hL.right _ (List.getElem_mem h2);rw [if_neg c2,if_pos ⟨by omega,zav h1⟩];have w2:IntKind.i64.wrap ((i:Int)+1)=((i+1:Nat):Int):=zce i (by omega);rw [w2,if_pos ⟨by omega,zav h2⟩,zf4 h1,zf4 h2,z0x hp1 hp2 hk160,Option.bind_some,Option.bind_some]
        cases ho:zcv t[i].mat t[i+1].mat with
        |true=>rfl
        |false =>
          have e0:(if (0+t.length)*201≤1000000000 then (if t.length=0 then some ([],0) else some (t,t.length)) else none:Option (List Rule×Nat))=some (t,t.length):=by rw [if_pos (by omega),if_neg (by omega)]
          rw [if_neg (by simp),e0,Option.bind_some];dsimp only;rw [show ((i:Int)).toNat=i by omega,show (((i+1:Nat):Int)).toNat=i+1 by omega];simp only [List.length_set];rw [if_pos ⟨by omega,zav h2⟩,if_pos ⟨by omega,zav h1⟩,if_pos ⟨by omega,zav h1⟩,if_pos h1,if_pos ⟨by omega,zav h2⟩,if_pos h2,if_pos h1,if_pos h2,if_pos trivial]
          have et:t=t.take i++t[i] :: t[i+1] :: t.drop (i+2):=by
            conv=>lhs;rw [← List.take_append_drop i t]
            rw [List.drop_eq_getElem_cons h1,List.drop_eq_getElem_cons h2]
          have hlen:(t.take i).length=i:=by rw [List.length_take];omega
          revert et hlen ho;generalize t[i]=r;generalize t[i+1]=s;generalize t.take i=p;generalize t.drop (i+2)=q;intro ho et hlen
          have eu:((((t.set i s).set (i+1) r).set i { (((t.set i s).set (i+1) r)).getD i default with prio:=r.prio }).set (i+1) { ((((t.set i s).set (i+1) r).set i { (((t.set i s).set (i+1) r)).getD i default with prio:=r.prio })).getD (i+1) default with prio:=s.prio })=p++{ s with prio:=r.prio } :: { r with prio:=s.prio } :: q:=by
            rw [et,← hlen];simp [List.set_append_right,List.getD_eq_getElem?_getD,List.getElem?_append_right]
          rw [eu]
          have hm:∀ z,z∈p++{ s with prio:=r.prio } :: { r with prio:=s.prio } :: q→∃ z',z'∈t∧z.mat=z'.mat∧z.outs=z'.outs:=fun z hz=>by
            rw [et];rcases List.mem_append.1 hz with w|w
            · exact ⟨z,List.mem_append_left _ w,rfl,rfl⟩
            · rcases List.mem_cons.1 w with rfl|w
              · exact ⟨s,by simp,rfl,rfl⟩
              · rcases List.mem_cons.1 w with rfl|w
                · exact ⟨r,by simp,rfl,rfl⟩
                · exact ⟨z,by simp [w],rfl,rfl⟩
          have hlu:(p++{ s with prio:=r.prio } :: { r with prio:=s.prio } :: q).length=t.length:=by rw [et];simp
          have Lu:Lit (p++{ s with prio:=r.prio } :: { r with prio:=s.prio } :: q) F:=⟨by rw [hlu];exact hL.len,fun z hz=>by obtain ⟨z',h1,h2,_⟩:=hm z hz;rw [h2];exact hL.right _ h1,hL.few,fun z hz=>by obtain ⟨z',h1,h2,_⟩:=hm z hz;rw [h2];exact hL.mask _ h1⟩;obtain ⟨x,f,e1,R1⟩:=z0f hL Lu (by omega) (by rw [hlu];omega) ht hk
          obtain rfl:=R1.of_same fun y hy=>by
            have:=yhx p q r s r.prio s.prio (h:=y) ho;rw [← et] at this;exact this
          rw [e1];rfl
end
section
open Go Go.RowKit
theorem heldW {n:Net} (h:yg1 n):Held n:=⟨fun x hx=>(h.1.2 x hx).1,fun x hx=>(h.2.2.2 x hx).1⟩
theorem yhn {r:Rule} (h:z11 r):zq4 r:=⟨h.2.2.2.1,fun l hl=>(h.2.2.2.2 l hl).1⟩
theorem yjn {t:List Rule} (h:t.length<big∧∀ y,y∈t→z11 y):z01 t:=⟨h.1,fun r hr=>yhn (h.2 r hr)⟩
end
section
open Go Go.RowKit
theorem law6w (n:Net) (t:List Rule) (kk:Int) (wn:yg1 n) (wt:t.length<big∧∀ y,y∈t→z11 y) (_:inI kk):∃ k,zby k n t kk=some true :=
  zwj n t kk (heldW wn) (yjn wt)
end
end Go.Proofs.YtjgbkegkcbcjaaaGreat
