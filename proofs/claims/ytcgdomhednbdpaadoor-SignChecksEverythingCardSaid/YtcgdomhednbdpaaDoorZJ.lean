/- Part 10 of the proof of SignChecksEverything (several texts in one; no further condition). -/
import Derived.Test.YtcgdomhednbdpaaDoorZI
set_option linter.unusedSimpArgs false
set_option linter.unusedVariables false
set_option linter.unusedSectionVars false
namespace Go.Proofs.YtcgdomhednbdpaaDoor
section
open Go Go.RowKit
set_option maxRecDepth 100000
def zch (k:Nat) (seed:ByteArray) (height:Int) (index:Int) (message:ByteArray) (other:ByteArray) (at_:Int) (by_:Int):Option Bool:=((zli k ).bind fun rsanity=>(((if 200<(seed.size:Int) then some true else (if 200<(message.size:Int) then some true else some (decide (200<(other.size:Int))))):Option Bool).bind fun s_=>(if s_=true then some rsanity else (if (0:Int)≤(IntKind.i64.wrap (height))∧0<3 then ((zff k ((IntKind.i64.wrap (height)) % 3)).bind fun rCount=>(if (0:Int)≤(IntKind.i64.wrap (index))∧0<rCount then ((zff k ((IntKind.i64.wrap (height)) % 3)).bind fun rCount2=>(if (0:Int)≤(IntKind.i64.wrap (((IntKind.i64.wrap (index)) % rCount)+1))∧0<rCount2 then ((zc2 k seed ((IntKind.i64.wrap (height)) % 3)).bind fun rPublic=>((zfe k seed ((IntKind.i64.wrap (height)) % 3) ((IntKind.i64.wrap (index)) % rCount) message).bind fun rSign=>(((if rSign.2≠0 then some true else some (decide ((rSign.1.size:Int)<17))):Option Bool).bind fun s_2=>(if s_2=true then some false else ((zbf k rPublic.1 ((IntKind.i64.wrap (height)) % 3) other rSign.1).bind fun rVerify=>((zhc k ((IntKind.i64.wrap (((IntKind.i64.wrap (index)) % rCount)+1)) % rCount2)).bind fun rInt=>(if (0:Int)≤1∧1≤(rSign.1.size:Int) then (if (strL rInt).size+(rSign.1.extract (1:Int).toNat rSign.1.size).size≤9223372036854775807 then ((zbf k rPublic.1 ((IntKind.i64.wrap (height)) % 3) message ((strL rInt)++(rSign.1.extract (1:Int).toNat rSign.1.size))).bind fun rVerify2=>(if rSign.1.size≤1000000000 then (if (0:Int)≤(IntKind.i64.wrap (at_))∧0<(IntKind.i64.wrap ((rSign.1.size:Int) - 1)) then (if (0:Int)≤(IntKind.i64.wrap (1+((IntKind.i64.wrap (at_)) % (IntKind.i64.wrap ((rSign.1.size:Int) - 1)))))∧(IntKind.i64.wrap (1+((IntKind.i64.wrap (at_)) % (IntKind.i64.wrap ((rSign.1.size:Int) - 1)))))<(rSign.1.size:Int) then (if (IntKind.i64.wrap (1+((IntKind.i64.wrap (at_)) % (IntKind.i64.wrap ((rSign.1.size:Int) - 1))))).toNat<(bytL rSign.1).length then (if ((bytL rSign.1).set (IntKind.i64.wrap (1+((IntKind.i64.wrap (at_)) % (IntKind.i64.wrap ((rSign.1.size:Int) - 1))))).toNat (IntKind.u8.wrap (((bytL rSign.1).getD (IntKind.i64.wrap (1+((IntKind.i64.wrap (at_)) % (IntKind.i64.wrap ((rSign.1.size:Int) - 1))))).toNat default)+by_))).length=rSign.1.size then ((zbf k rPublic.1 ((IntKind.i64.wrap (height)) % 3) message (strL ((bytL rSign.1).set (IntKind.i64.wrap (1+((IntKind.i64.wrap (at_)) % (IntKind.i64.wrap ((rSign.1.size:Int) - 1))))).toNat (IntKind.u8.wrap (((bytL rSign.1).getD (IntKind.i64.wrap (1+((IntKind.i64.wrap (at_)) % (IntKind.i64.wrap ((rSign.1.size:Int) - 1))))).toNat default)+by_))))).bind fun rVerify3=>((zir k rPublic.1 ((IntKind.i64.wrap (height)) % 3) ((IntKind.i64.wrap (index)) % rCount) other (rSign.1.extract (1:Int).toNat rSign.1.size)).bind fun rRoot=>((zir k rPublic.1 ((IntKind.i64.wrap (height)) % 3) ((IntKind.i64.wrap (((IntKind.i64.wrap (index)) % rCount)+1)) % rCount2) message (rSign.1.extract (1:Int).toNat rSign.1.size)).bind fun rRoot2=>(if (0:Int)≤1∧1≤((strL ((bytL rSign.1).set (IntKind.i64.wrap (1+((IntKind.i64.wrap (at_)) % (IntKind.i64.wrap ((rSign.1.size:Int) - 1))))).toNat (IntKind.u8.wrap (((bytL rSign.1).getD (IntKind.i64.wrap (1+((IntKind.i64.wrap (at_)) % (IntKind.i64.wrap ((rSign.1.size:Int) - 1))))).toNat default)+by_)))).size:Int) then ((zir k rPublic.1 ((IntKind.i64.wrap (height)) % 3) ((IntKind.i64.wrap (index)) % rCount) message ((strL ((bytL rSign.1).set (IntKind.i64.wrap (1+((IntKind.i64.wrap (at_)) % (IntKind.i64.wrap ((rSign.1.size:Int) - 1))))).toNat (IntKind.u8.wrap (((bytL rSign.1).getD (IntKind.i64.wrap (1+((IntKind.i64.wrap (at_)) % (IntKind.i64.wrap ((rSign.1.size:Int) - 1))))).toNat default)+by_)))).extract (1:Int).toNat (strL ((bytL rSign.1).set (IntKind.i64.wrap (1+((IntKind.i64.wrap (at_)) % (IntKind.i64.wrap ((rSign.1.size:Int) - 1))))).toNat (IntKind.u8.wrap (((bytL rSign.1).getD (IntKind.i64.wrap (1+((IntKind.i64.wrap (at_)) % (IntKind.i64.wrap ((rSign.1.size:Int) - 1))))).toNat default)+by_)))).size)).bind fun rRoot3=>(if rsanity=true then (if rVerify.2=0 then (if rRoot=rPublic.1 then (if rVerify2.2=0 then (if rRoot2=rPublic.1 then (if rVerify3.2=0 then (if rRoot3=rPublic.1 then some true else some false) else (if rRoot3=rPublic.1 then some false else some true)) else some false) else (if rRoot2=rPublic.1 then some false else (if rVerify3.2=0 then (if rRoot3=rPublic.1 then some true else some false) else (if rRoot3=rPublic.1 then some false else some true)))) else some false) else (if rRoot=rPublic.1 then some false else (if rVerify2.2=0 then (if rRoot2=rPublic.1 then (if rVerify3.2=0 then (if rRoot3=rPublic.1 then some true else some false) else (if rRoot3=rPublic.1 then some false else some true)) else some false) else (if rRoot2=rPublic.1 then some false else (if rVerify3.2=0 then (if rRoot3=rPublic.1 then some true else some false) else (if rRoot3=rPublic.1 then some false else some true)))))) else some false)) else none)))) else none) else none) else none) else none) else none)) else none) else none))))))) else none)) else none)) else none))))
set_option maxHeartbeats 8000000 in
theorem zi4 (ax:Axs) (hx:Pl ax) (k:Nat) (seed:ByteArray) (height:Int) (index:Int) (message:ByteArray) (other:ByteArray) (at_:Int) (by_:Int) (v:Bool) (H:zch k seed height index message other at_ by_=some v):Pure Tryd.prog (EE ax) GLs 8 [.str seed,.int .u8 height,.int .u8 index,.str message,.str other,.int .u16 at_,.int .u8 by_] (.bool v):=by
 rw [zch] at H;refine en [.tmp 14] 180 [0,1,2,3,4,5,6] (hx.no _ (by decide)) (fn8 ax) ?_;intro h hh;repeat apply TW.seq
 refine rk [0,1,2,3,4,5,6] [] hh ?_;clear hh h;intro h hh;obtain ⟨rsanity,e1,H⟩:=zal H;repeat apply TW.seq
 refine rkc [0,1,2,3,4,5,6,15] [] [(.bool rsanity,stL [])] hh ?_ ?_
 ·exact ⟨za1.call ((zx0 ax hx k  rsanity e1 ).call _),trivial⟩
 clear hh h;intro h hh;obtain ⟨s_,H1,H⟩:=zal H;repeat apply TW.seq
 refine cu [0,1,2,3,4,5,6,15,48] 0 (fun h bs=>(h 0=.str seed∧h 1=.int .u8 height∧h 2=.int .u8 index∧h 3=.str message∧h 4=.str other∧h 5=.int .u16 at_∧h 6=.int .u8 by_∧h 15=.bool rsanity∧h 48=.bool s_)∧bs=[]) ?_ ?_
 ·skip;rcases isp H1 with ⟨c2,H1⟩|⟨c2,H1⟩;rotate_left
  ·skip;rcases isp H1 with ⟨c3,H1⟩|⟨c3,H1⟩;rotate_left
   ·skip;repeat apply TW.seq
    refine rk [0,1,2,3,4,5,6,15,48] [] (f3 hh (decide_eq_false c2) (decide_eq_false c3)) ?_;clear hh h;intro h hh;cases H1;exact ce hh ⟨kq hh,rfl⟩
   repeat apply TW.seq
   refine rk [0,1,2,3,4,5,6,15,48] [] (f3 hh (decide_eq_false c2) (decide_eq_true c3)) ?_;clear hh h;intro h hh;cases H1;exact ce hh ⟨kq hh,rfl⟩
  repeat apply TW.seq
  refine rk [0,1,2,3,4,5,6,15,48] [] (f2 hh (decide_eq_true c2)) ?_;clear hh h;intro h hh;cases H1;exact ce hh ⟨kq hh,rfl⟩
 clear hh h;rintro h bs ⟨hh,rfl⟩;rcases isb H with ⟨c4,H⟩|⟨c4,H⟩;rotate_left
 ·skip;repeat apply TW.seq
  refine cf (f2 hh c4) ?_;repeat apply TW.seq
  refine sk ?_;obtain ⟨g5,H⟩:=isg H;repeat apply TW.seq
  refine rk [0,2,3,4,5,6,15,16] [] (f2 hh c4) ?_;clear hh h;intro h hh;obtain ⟨rCount,e6,H⟩:=zal H;obtain ⟨g7,H⟩:=isg H;repeat apply TW.seq
  refine rkc [0,3,4,5,6,15,16,17] [] [(.int .i64 rCount,stL [])] (f2 hh c4) ?_ ?_
  ·exact ⟨za1.call (Pure.clr (znm ax hx k ((IntKind.i64.wrap (height)) % 3) rCount e6 ) (by first|rfl|simp only [c4])),trivial⟩
  clear hh h;intro h hh;obtain ⟨rCount2,e8,H⟩:=zal H;obtain ⟨g9,H⟩:=isg H;repeat apply TW.seq
  refine rkc [0,3,4,5,6,15,16,17,18] [] [(.int .i64 rCount2,stL [])] (f2 hh c4) ?_ ?_
  ·exact ⟨za1.call (Pure.clr (znm ax hx k ((IntKind.i64.wrap (height)) % 3) rCount2 e8 ) (by first|rfl|simp only [c4])),trivial⟩
  clear hh h;intro h hh;obtain ⟨rPublic,e10,H⟩:=zal H;repeat apply TW.seq
  refine rkc [0,3,4,5,6,15,16,17,18,19] [] [(.tup [.agg (rPublic.1.l.map (T.int .u8)),.int .i64 rPublic.2],stL [])] (f2 hh c4) ?_ ?_
  ·exact ⟨za1.call (Pure.clr (ziq ax hx k seed ((IntKind.i64.wrap (height)) % 3) rPublic e10 ) (by first|rfl|simp only [c4])),trivial⟩
  clear hh h;intro h hh;obtain ⟨rSign,e11,H⟩:=zal H;repeat apply TW.seq
  refine rkc [3,4,5,6,15,16,17,18,19,21,22] [] [(.tup [.str rSign.1,.int .i64 rSign.2],stL [.cells true 16 (rPublic.1.l.map (T.int .u8))])] (f2 hh c4) ?_ ?_
  ·exact ⟨za1.call (Pure.clr (zki ax hx k seed ((IntKind.i64.wrap (height)) % 3) ((IntKind.i64.wrap (index)) % rCount) message rSign e11 ) (by first|rfl|simp only [c4])),trivial⟩
  clear hh h;intro h hh;obtain ⟨s_2,H1,H⟩:=zal H;repeat apply TW.seq
  refine cu [3,4,5,6,15,16,17,18,19,21,83] 1 (fun h bs=>(h 3=.str message∧h 4=.str other∧h 5=.int .u16 at_∧h 6=.int .u8 by_∧h 15=.bool rsanity∧h 16=.int .i64 ((IntKind.i64.wrap (height)) % 3)∧h 17=.int .i64 ((IntKind.i64.wrap (index)) % rCount)∧h 18=.int .i64 ((IntKind.i64.wrap (((IntKind.i64.wrap (index)) % rCount)+1)) % rCount2)∧h 19=.ptr 0 0 16∧h 21=.str rSign.1∧h 83=.bool s_2)∧bs=[.cells true 16 (rPublic.1.l.map (T.int .u8))]) ?_ ?_
  ·skip;rcases isp H1 with ⟨c12,H1⟩|⟨c12,H1⟩;rotate_left
   ·skip;repeat apply TW.seq
    refine rk [3,4,5,6,15,16,17,18,19,21,83] [] (f3 hh (decide_eq_false c12) c4) ?_;clear hh h;intro h hh;cases H1;exact ce hh ⟨kq hh,rfl⟩
   repeat apply TW.seq
   refine rk [3,4,5,6,15,16,17,18,19,21,83] [] (f3 hh (decide_eq_true c12) c4) ?_;clear hh h;intro h hh;cases H1;exact ce hh ⟨kq hh,rfl⟩
  clear hh h;rintro h bs ⟨hh,rfl⟩;rcases isb H with ⟨c13,H⟩|⟨c13,H⟩;rotate_left
  ·skip;repeat apply TW.seq
   refine cf (f2 hh c13) ?_;repeat apply TW.seq
   refine sk ?_;obtain ⟨rVerify,e14,H⟩:=zal H;repeat apply TW.seq
   refine rkc [3,4,5,6,15,16,17,18,19,21,24] [] [(.tup [.int .i64 rVerify.1,.int .i64 rVerify.2],stL [.cells true 16 (rPublic.1.l.map (T.int .u8))])] (f3 hh c4 c13) ?_ ?_
   ·exact ⟨za1.call (Pure.clr (zez ax hx k rPublic.1 ((IntKind.i64.wrap (height)) % 3) other rSign.1 rVerify e14 ) (by first|rfl|simp only [c4,c13])),trivial⟩
   clear hh h;intro h hh;obtain ⟨rInt,e15,H⟩:=zal H;obtain ⟨g16,H⟩:=isg H;obtain ⟨g17,H⟩:=isg H;repeat apply TW.seq
   refine dk 0 [3,4,5,6,15,16,17,18,19,21,24,25] [] [] [(byts rInt,stL [.cells true 16 (rPublic.1.l.map (T.int .u8))])] (f3 hh c4 (f3 c13 (@tStr.eq_1) (f3 (isu8 ax) (@tSrc.eq_1) (f2 (ztc g16) (ye8 g17))))) trivial ?_ ?_
   ·exact ⟨za1.call (Pure.clr (zkj ax hx k ((IntKind.i64.wrap (((IntKind.i64.wrap (index)) % rCount)+1)) % rCount2) rInt e15 ) (by first|rfl|simp only [c4,c13])),trivial⟩
   clear hh h;intro h hh;obtain ⟨rVerify2,e18,H⟩:=zal H;repeat apply TW.seq
   refine rkc [3,4,5,6,15,16,17,18,19,21,24,27] [] [(.tup [.int .i64 rVerify2.1,.int .i64 rVerify2.2],stL [.cells true 16 (rPublic.1.l.map (T.int .u8))])] (f3 hh c4 c13) ?_ ?_
   ·exact ⟨za1.call (Pure.clr (zez ax hx k rPublic.1 ((IntKind.i64.wrap (height)) % 3) message ((strL rInt)++(rSign.1.extract (1:Int).toNat rSign.1.size)) rVerify2 e18 ) (by first|rfl|simp only [c4,c13])),trivial⟩
   clear hh h;intro h hh;obtain ⟨g19,H⟩:=isg H;repeat apply TW.seq
   refine rk [3,4,5,6,15,16,17,18,19,21,24,27,28] [107] (f3 hh c4 (f3 c13 (isu8 ax) (f2 (zhg rSign.1) (cvo ax rSign.1 g19)))) ?_;clear hh h;intro h hh;obtain ⟨g20,H⟩:=isg H;repeat apply TW.seq
   refine rk [3,4,6,15,16,17,18,19,21,24,27,28,29] [] (f3 hh c4 c13) ?_;clear hh h;intro h hh;obtain ⟨g21,H⟩:=isg H;obtain ⟨g22,H⟩:=isg H;repeat apply TW.seq
   refine rk [3,4,15,16,17,18,19,21,24,27,28] [] (f3 hh c4 (f3 c13 (zqv g22) (fun f v=>@z8a _ _ f _ v g22))) ?_;clear hh h;intro h hh;obtain ⟨g23,H⟩:=isg H;obtain ⟨rVerify3,e24,H⟩:=zal H;repeat apply TW.seq
   refine rkc [3,4,15,16,17,18,19,21,24,27,28,31] [] [(.tup [.int .i64 rVerify3.1,.int .i64 rVerify3.2],stL [.cells true 16 (rPublic.1.l.map (T.int .u8)),.cells false rSign.1.size (((bytL rSign.1).set (IntKind.i64.wrap (1+((IntKind.i64.wrap (at_)) % (IntKind.i64.wrap ((rSign.1.size:Int) - 1))))).toNat (IntKind.u8.wrap (((bytL rSign.1).getD (IntKind.i64.wrap (1+((IntKind.i64.wrap (at_)) % (IntKind.i64.wrap ((rSign.1.size:Int) - 1))))).toNat default)+by_))).map (T.int .u8))])] (f3 hh c4 (f3 c13 (@tStr.eq_1) (f3 (isu8 ax) (@tSrc.eq_4) (zre (k:=.u8) g23)))) ?_ ?_
   ·exact ⟨za1.call (Pure.clr (zez ax hx k rPublic.1 ((IntKind.i64.wrap (height)) % 3) message (strL ((bytL rSign.1).set (IntKind.i64.wrap (1+((IntKind.i64.wrap (at_)) % (IntKind.i64.wrap ((rSign.1.size:Int) - 1))))).toNat (IntKind.u8.wrap (((bytL rSign.1).getD (IntKind.i64.wrap (1+((IntKind.i64.wrap (at_)) % (IntKind.i64.wrap ((rSign.1.size:Int) - 1))))).toNat default)+by_)))) rVerify3 e24 ) (by first|rfl|simp only [c4,c13])),trivial⟩
   clear hh h;intro h hh;obtain ⟨rRoot,e25,H⟩:=zal H;repeat apply TW.seq
   refine dk 8 [3,15,16,17,18,19,21,24,27,28,31,32] [.agg (rRoot.l.map (T.int .u8))] [] [] (f3 hh c4 (f3 c13 (ztc g16) ((aq23 ax rRoot rPublic.1).1))) ?_ trivial ?_
   ·exact ⟨Pure.clr (zlh ax hx k rPublic.1 ((IntKind.i64.wrap (height)) % 3) ((IntKind.i64.wrap (index)) % rCount) other (rSign.1.extract (1:Int).toNat rSign.1.size) rRoot e25 ) (by first|rfl|simp only [c4,c13]),trivial⟩
   clear hh h;intro h hh;obtain ⟨rRoot2,e26,H⟩:=zal H;repeat apply TW.seq
   refine dk 8 [3,15,16,17,19,24,27,28,31,32,33] [.agg (rRoot2.l.map (T.int .u8))] [] [] (f3 hh c4 (f3 c13 (ztc g16) ((aq23 ax rRoot2 rPublic.1).1))) ?_ trivial ?_
   ·exact ⟨Pure.clr (zlh ax hx k rPublic.1 ((IntKind.i64.wrap (height)) % 3) ((IntKind.i64.wrap (((IntKind.i64.wrap (index)) % rCount)+1)) % rCount2) message (rSign.1.extract (1:Int).toNat rSign.1.size) rRoot2 e26 ) (by first|rfl|simp only [c4,c13]),trivial⟩
   clear hh h;intro h hh;obtain ⟨g27,H⟩:=isg H;obtain ⟨rRoot3,e28,H⟩:=zal H;repeat apply TW.seq
   refine dk 9 [15,24,27,31,32,33,34] [.agg (rRoot3.l.map (T.int .u8))] [] [] (f3 hh c4 (f3 c13 (@tStr.eq_1) (f3 (isu8 ax) (@tSrc.eq_4) (f3 (zre (k:=.u8) g23) (ztc g27) ((aq23 ax rRoot3 rPublic.1).1))))) ?_ trivial ?_
   ·exact ⟨Pure.clr (zlh ax hx k rPublic.1 ((IntKind.i64.wrap (height)) % 3) ((IntKind.i64.wrap (index)) % rCount) message ((strL ((bytL rSign.1).set (IntKind.i64.wrap (1+((IntKind.i64.wrap (at_)) % (IntKind.i64.wrap ((rSign.1.size:Int) - 1))))).toNat (IntKind.u8.wrap (((bytL rSign.1).getD (IntKind.i64.wrap (1+((IntKind.i64.wrap (at_)) % (IntKind.i64.wrap ((rSign.1.size:Int) - 1))))).toNat default)+by_)))).extract (1:Int).toNat (strL ((bytL rSign.1).set (IntKind.i64.wrap (1+((IntKind.i64.wrap (at_)) % (IntKind.i64.wrap ((rSign.1.size:Int) - 1))))).toNat (IntKind.u8.wrap (((bytL rSign.1).getD (IntKind.i64.wrap (1+((IntKind.i64.wrap (at_)) % (IntKind.i64.wrap ((rSign.1.size:Int) - 1))))).toNat default)+by_)))).size) rRoot3 e28 ) (by first|rfl|simp only [c4,c13]),trivial⟩
   clear hh h;intro h hh;rcases isb H with ⟨c29,H⟩|⟨c29,H⟩;rotate_left
   ·skip;repeat apply TW.seq
    refine rk [14] [] (f3 hh c29 (f2 c4 c13)) ?_;clear hh h;intro h hh;cases H;exact rt hh
   rcases isp H with ⟨c30,H⟩|⟨c30,H⟩;rotate_left
   ·skip;rcases isp H with ⟨c41,H⟩|⟨c41,H⟩;rotate_left
    ·skip;rcases isp H with ⟨c42,H⟩|⟨c42,H⟩;rotate_left
     ·skip;rcases isp H with ⟨c47,H⟩|⟨c47,H⟩;rotate_left
      ·skip;rcases isp H with ⟨c48,H⟩|⟨c48,H⟩;rotate_left
       ·skip;rcases isp H with ⟨c50,H⟩|⟨c50,H⟩;rotate_left
        ·skip;repeat apply TW.seq
         refine rk [14] [] (f3 hh c29 (f3 (decide_eq_false c41) (decide_eq_false c30) (f3 (decide_eq_false c47) (decide_eq_false c42) (f3 (decide_eq_false c50) (decide_eq_false c48) (f2 c4 c13))))) ?_;clear hh h;intro h hh;cases H;exact rt hh
        repeat apply TW.seq
        refine rk [14] [] (f3 hh c29 (f3 (decide_eq_false c41) (decide_eq_false c30) (f3 (decide_eq_false c47) (decide_eq_false c42) (f3 (decide_eq_true c50) (decide_eq_false c48) (f2 c4 c13))))) ?_;clear hh h;intro h hh;cases H;exact rt hh
       rcases isp H with ⟨c49,H⟩|⟨c49,H⟩;rotate_left
       ·skip;repeat apply TW.seq
        refine rk [14] [] (f3 hh c29 (f3 (decide_eq_false c41) (decide_eq_false c30) (f3 (decide_eq_false c47) (decide_eq_false c42) (f3 (decide_eq_false c49) (decide_eq_true c48) (f2 c4 c13))))) ?_;clear hh h;intro h hh;cases H;exact rt hh
       repeat apply TW.seq
       refine rk [14] [] (f3 hh c29 (f3 (decide_eq_false c41) (decide_eq_false c30) (f3 (decide_eq_false c47) (decide_eq_false c42) (f3 (decide_eq_true c49) (decide_eq_true c48) (f2 c4 c13))))) ?_;clear hh h;intro h hh;cases H;exact rt hh
      repeat apply TW.seq
      refine rk [14] [] (f3 hh c29 (f3 (decide_eq_false c41) (decide_eq_false c30) (f3 (decide_eq_true c47) (decide_eq_false c42) (f2 c4 c13)))) ?_;clear hh h;intro h hh;cases H;exact rt hh
     rcases isp H with ⟨c43,H⟩|⟨c43,H⟩;rotate_left
     ·skip;repeat apply TW.seq
      refine rk [14] [] (f3 hh c29 (f3 (decide_eq_false c41) (decide_eq_false c30) (f3 (decide_eq_false c43) (decide_eq_true c42) (f2 c4 c13)))) ?_;clear hh h;intro h hh;cases H;exact rt hh
     rcases isp H with ⟨c44,H⟩|⟨c44,H⟩;rotate_left
     ·skip;rcases isp H with ⟨c46,H⟩|⟨c46,H⟩;rotate_left
      ·skip;repeat apply TW.seq
       refine rk [14] [] (f3 hh c29 (f3 (decide_eq_false c41) (decide_eq_false c30) (f3 (decide_eq_true c43) (decide_eq_true c42) (f3 (decide_eq_false c46) (decide_eq_false c44) (f2 c4 c13))))) ?_;clear hh h;intro h hh;cases H;exact rt hh
      repeat apply TW.seq
      refine rk [14] [] (f3 hh c29 (f3 (decide_eq_false c41) (decide_eq_false c30) (f3 (decide_eq_true c43) (decide_eq_true c42) (f3 (decide_eq_true c46) (decide_eq_false c44) (f2 c4 c13))))) ?_;clear hh h;intro h hh;cases H;exact rt hh
     rcases isp H with ⟨c45,H⟩|⟨c45,H⟩;rotate_left
     ·skip;repeat apply TW.seq
      refine rk [14] [] (f3 hh c29 (f3 (decide_eq_false c41) (decide_eq_false c30) (f3 (decide_eq_true c43) (decide_eq_true c42) (f3 (decide_eq_false c45) (decide_eq_true c44) (f2 c4 c13))))) ?_;clear hh h;intro h hh;cases H;exact rt hh
     repeat apply TW.seq
     refine rk [14] [] (f3 hh c29 (f3 (decide_eq_false c41) (decide_eq_false c30) (f3 (decide_eq_true c43) (decide_eq_true c42) (f3 (decide_eq_true c45) (decide_eq_true c44) (f2 c4 c13))))) ?_;clear hh h;intro h hh;cases H;exact rt hh
    repeat apply TW.seq
    refine rk [14] [] (f3 hh c29 (f3 (decide_eq_true c41) (decide_eq_false c30) (f2 c4 c13))) ?_;clear hh h;intro h hh;cases H;exact rt hh
   rcases isp H with ⟨c31,H⟩|⟨c31,H⟩;rotate_left
   ·skip;repeat apply TW.seq
    refine rk [14] [] (f3 hh c29 (f3 (decide_eq_false c31) (decide_eq_true c30) (f2 c4 c13))) ?_;clear hh h;intro h hh;cases H;exact rt hh
   rcases isp H with ⟨c32,H⟩|⟨c32,H⟩;rotate_left
   ·skip;rcases isp H with ⟨c37,H⟩|⟨c37,H⟩;rotate_left
    ·skip;rcases isp H with ⟨c38,H⟩|⟨c38,H⟩;rotate_left
     ·skip;rcases isp H with ⟨c40,H⟩|⟨c40,H⟩;rotate_left
      ·skip;repeat apply TW.seq
       refine rk [14] [] (f3 hh c29 (f3 (decide_eq_true c31) (decide_eq_true c30) (f3 (decide_eq_false c37) (decide_eq_false c32) (f3 (decide_eq_false c40) (decide_eq_false c38) (f2 c4 c13))))) ?_;clear hh h;intro h hh;cases H;exact rt hh
      repeat apply TW.seq
      refine rk [14] [] (f3 hh c29 (f3 (decide_eq_true c31) (decide_eq_true c30) (f3 (decide_eq_false c37) (decide_eq_false c32) (f3 (decide_eq_true c40) (decide_eq_false c38) (f2 c4 c13))))) ?_;clear hh h;intro h hh;cases H;exact rt hh
     rcases isp H with ⟨c39,H⟩|⟨c39,H⟩;rotate_left
     ·skip;repeat apply TW.seq
      refine rk [14] [] (f3 hh c29 (f3 (decide_eq_true c31) (decide_eq_true c30) (f3 (decide_eq_false c37) (decide_eq_false c32) (f3 (decide_eq_false c39) (decide_eq_true c38) (f2 c4 c13))))) ?_;clear hh h;intro h hh;cases H;exact rt hh
     repeat apply TW.seq
     refine rk [14] [] (f3 hh c29 (f3 (decide_eq_true c31) (decide_eq_true c30) (f3 (decide_eq_false c37) (decide_eq_false c32) (f3 (decide_eq_true c39) (decide_eq_true c38) (f2 c4 c13))))) ?_;clear hh h;intro h hh;cases H;exact rt hh
    repeat apply TW.seq
    refine rk [14] [] (f3 hh c29 (f3 (decide_eq_true c31) (decide_eq_true c30) (f3 (decide_eq_true c37) (decide_eq_false c32) (f2 c4 c13)))) ?_;clear hh h;intro h hh;cases H;exact rt hh
   rcases isp H with ⟨c33,H⟩|⟨c33,H⟩;rotate_left
   ·skip;repeat apply TW.seq
    refine rk [14] [] (f3 hh c29 (f3 (decide_eq_true c31) (decide_eq_true c30) (f3 (decide_eq_false c33) (decide_eq_true c32) (f2 c4 c13)))) ?_;clear hh h;intro h hh;cases H;exact rt hh
   rcases isp H with ⟨c34,H⟩|⟨c34,H⟩;rotate_left
   ·skip;rcases isp H with ⟨c36,H⟩|⟨c36,H⟩;rotate_left
    ·skip;repeat apply TW.seq
     refine rk [14] [] (f3 hh c29 (f3 (decide_eq_true c31) (decide_eq_true c30) (f3 (decide_eq_true c33) (decide_eq_true c32) (f3 (decide_eq_false c36) (decide_eq_false c34) (f2 c4 c13))))) ?_;clear hh h;intro h hh;cases H;exact rt hh
    repeat apply TW.seq
    refine rk [14] [] (f3 hh c29 (f3 (decide_eq_true c31) (decide_eq_true c30) (f3 (decide_eq_true c33) (decide_eq_true c32) (f3 (decide_eq_true c36) (decide_eq_false c34) (f2 c4 c13))))) ?_;clear hh h;intro h hh;cases H;exact rt hh
   rcases isp H with ⟨c35,H⟩|⟨c35,H⟩;rotate_left
   ·skip;repeat apply TW.seq
    refine rk [14] [] (f3 hh c29 (f3 (decide_eq_true c31) (decide_eq_true c30) (f3 (decide_eq_true c33) (decide_eq_true c32) (f3 (decide_eq_false c35) (decide_eq_true c34) (f2 c4 c13))))) ?_;clear hh h;intro h hh;cases H;exact rt hh
   repeat apply TW.seq
   refine rk [14] [] (f3 hh c29 (f3 (decide_eq_true c31) (decide_eq_true c30) (f3 (decide_eq_true c33) (decide_eq_true c32) (f3 (decide_eq_true c35) (decide_eq_true c34) (f2 c4 c13))))) ?_;clear hh h;intro h hh;cases H;exact rt hh
  repeat apply TW.seq
  refine ct (f2 hh c13) ?_;repeat apply TW.seq
  refine rk [14] [] (f3 hh c4 c13) ?_;clear hh h;intro h hh;cases H;exact rt hh
 repeat apply TW.seq
 refine ct (f2 hh c4) ?_;repeat apply TW.seq
 refine rk [14] [] (f2 hh c4) ?_;clear hh h;intro h hh;cases H;exact rt hh
end
section
open Go Go.RowKit WM
set_option maxRecDepth 100000
theorem z87 (k:Nat) (s:ByteArray) {i h:Nat} (hi:i<64) (D:Ar 16) (hD:Byt D) (hs:s.size=16*(35+h)) (hh:h≤6):∀ (n j m:Nat) (a:List Dg) (c:Nat),j+n=35→n<m→c≤j→zdw (k+100) (i:Int) s (digA D) m (j:Int) a c=some (a++mapR (fun j=>zdt i j (dgN D j+1) (15 - dgN D j) (blkA (bytL s) (16*j))) j n,c+n)
  |0,j,m+1,a,c,h1,h2,h3=>by
    rw [zdw,if_neg (by omega)]
    simp [mapR]
  |n+1,j,m+1,a,c,h1,h2,h3=>by
    have hd:=z46 hD (show j<35 by omega);have e:=z9g (k+70) hi (show j<64 by omega) hd.1 (Nat.le_refl 15) (blkA (bytL s) (16*j));rw [show ((15:Nat):Int)=15 from rfl] at e;have eb:=zug (k+80) (s:=s.extract (16*j) s.size) (by rw [ByteArray.size_extract];omega);rw [ybv s (by omega)] at eb;rw [zdw,if_pos (by omega),wi (show _∧16*(j:Int)≤_ by omega),if_pos (by omega),show (16*(j:Int)).toNat=16*j by omega,eb,Option.bind_some,if_pos (by omega),hd.2,e,Option.bind_some,if_pos (by omega),wi (by omega),show (j:Int)+1=((j+1:Nat):Int) by omega,z87 k s hi D hD hs hh n (j+1) m _ (c+1) (by omega) (by omega) (by omega),List.append_assoc,show c+1+n=c+(n+1) by omega];rfl
theorem z1d (k:Nat) (s:ByteArray) {h i:Nat} (hh:h≤6) (hi:i<64) (hs:s.size=16*(35+h)):∀ (n l m:Nat) (v:Dg),l+n=h→n<m→zc5 (k+100) (h:Int) s m ((i / 2 ^ l:Nat):Int) (l:Int) v=some (rtL i (fun j=>blkA (bytL s) (16*j)) l n v)
  |0,l,m+1,v,h1,h2=>by
    rw [zc5,if_neg (by omega)];rfl
  |n+1,l,m+1,v,h1,h2=>by
    have hq:i / 2 ^ l<64:=Nat.lt_of_le_of_lt (Nat.div_le_self _ _) hi;have hq1:i / 2 ^ (l+1)<64:=Nat.lt_of_le_of_lt (Nat.div_le_self _ _) hi;have eb:=zug (k+80) (s:=s.extract (16*(35+l)) s.size) (by rw [ByteArray.size_extract];omega);rw [ybv s (by omega)] at eb;have hw:∀ q:Nat,q<64→IntKind.i64.wrap (q:Int)=q:=fun q h=>wi (by omega)
    have hd:((i / 2 ^ l:Nat):Int) / 2=((i / 2 ^ (l+1):Nat):Int):=by
      rw [Nat.pow_succ,← Nat.div_div_eq_div_mul];omega
    rw [zc5,if_pos (by omega),wi (show _∧35+(l:Int)≤_ by omega),wi (show _∧16*(35+(l:Int))≤_ by omega),if_pos (by omega),show (16*(35+(l:Int))).toNat=16*(35+l) by omega,eb,Option.bind_some,if_pos ⟨Int.natCast_nonneg _,by decide⟩,hd,hw _ hq1,wi (show _∧(l:Int)+1≤_ by omega),show (l:Int)+1=((l+1:Nat):Int) by omega];show _=some (rtL i _ (l+1) n (if (i / 2 ^ l) % 2=1 then _ else _))
    have hm:(((i / 2 ^ l:Nat):Int) % 2=1)↔(i / 2 ^ l) % 2=1:=by
      generalize i / 2 ^ l=q;omega
    by_cases hb:i / 2 ^ l % 2=1
    · rw [if_pos (hm.2 hb),if_pos hb,z3d (k+80) (by omega) hq1,Option.bind_some];exact z1d k s hh hi hs n (l+1) m _ (by omega) (by omega)
    · rw [if_neg (fun q=>hb (hm.1 q)),if_neg hb,z3d (k+80) (by omega) hq1,Option.bind_some];exact z1d k s hh hi hs n (l+1) m _ (by omega) (by omega)
theorem zv4 (k:Nat) (P:Dg) {m s:ByteArray} (hm:m.size≤4000) {h i:Nat} (hh:h≤6) (hi:i<2 ^ h) (hs:s.size=16*(35+h)):zir (k+100) P (h:Int) (i:Int) m s=some (zr0 P h i m fun j=>blkA (bytL s) (16*j)):=by
  have hp:=zf5 hh;have hM:=zqr P i m;have e0:=z87 k s (show i<64 by omega) (msgF P i m) hM hs hh 35 0 (k+100) [] 0 rfl (by omega) (by omega);rw [show ((0:Nat):Int)=0 from rfl] at e0;have e1:=fun v=>z1d k s hh (show i<64 by omega) hs h 0 (k+100) v (by omega) (by omega);simp only [show ((0:Nat):Int)=0 from rfl,Nat.pow_zero,Nat.div_one] at e1;unfold zir;rw [yhv (k+80) P (by omega) hm,Option.bind_some,z6h (k+80) _ hM,Option.bind_some,e0,Option.bind_some,List.nil_append];dsimp only;rw [if_pos (by rw [zep]),ydj (k+100) (fun j=>zdt i j (dgN (msgF P i m) j+1) (15 - dgN (msgF P i m) j) (blkA (bytL s) (16*j))) fun j=>?_,Option.bind_some,e1,Option.bind_some]
  · rfl
  · refine zo9 _ _ _ _ _ fun x hx=>?_;unfold blkA at hx;by_cases hj:16*j+16≤(bytL s).length
    · rw [z35 (by rw [List.length_take,List.length_drop];omega)] at hx;exact zq2 s x (List.mem_of_mem_drop (List.mem_of_mem_take hx))
    · have:x∈(((bytL s).drop (16*j)).take 16++List.replicate 16 0).take 16:=hx;rcases List.mem_append.1 (List.mem_of_mem_take this) with h1|h1
      · exact zq2 s x (List.mem_of_mem_drop (List.mem_of_mem_take h1))
      · rw [(List.mem_replicate.1 h1).2];omega
theorem ztd (s:ByteArray) {h:Nat} (hs:s.size=1+16*(35+h)) {j:Nat} (hj:j<35+h):blkA (bytL (s.extract 1 s.size)) (16*j)=blkA (bytL s) (1+16*j):=by
  unfold blkA;rw [zji,List.drop_take,List.drop_drop,List.take_take];congr 2;omega
theorem yh6 (k:Nat) (seed:ByteArray) (h i:Nat) (m o:ByteArray) (a b:Nat) (hh:h<256) (hi:i<256) (ha:a<65536) (hb:b<256):zch (k+100) seed (h:Int) (i:Int) m o (a:Int) (b:Int)=some true:=by
  unfold zch;rw [yhs,Option.bind_some];by_cases h1:200<(seed.size:Int)
  · rw [if_pos h1,Option.bind_some,if_pos rfl]
  rw [if_neg h1];by_cases h2:200<(m.size:Int)
  · rw [if_pos h2,Option.bind_some,if_pos rfl]
  rw [if_neg h2,Option.bind_some];by_cases h3:200<(o.size:Int)
  · rw [if_pos (decide_eq_true h3)]
  rw [if_neg (by rw [decide_eq_true_eq];exact h3)];rw [wi (show _∧(h:Int)≤_ by omega),wi (show _∧(i:Int)≤_ by omega),wi (show _∧(a:Int)≤_ by omega)];rw [if_pos (by omega)];have h3':h % 3≤6:=by omega
  have hp:=zf5 h3';rw [show ((h:Int) % 3)=((h % 3:Nat):Int) by omega,zyf (k+80) (h % 3) h3',Option.bind_some,if_pos (by omega),Option.bind_some];have hlt:i % 2 ^ (h % 3)<2 ^ (h % 3):=Nat.mod_lt _ (by omega);rw [show ((i:Int) % ((2 ^ (h % 3):Nat):Int))=((i % 2 ^ (h % 3):Nat):Int) from (Int.natCast_emod i (2 ^ (h % 3))).symm];generalize hH:h % 3=H at *;generalize hI:i % 2 ^ H=I at *;have hKlt:(I+1) % 2 ^ H<2 ^ H:=Nat.mod_lt _ (by omega);rw [wi (show _∧(I:Int)+1≤_ by omega),if_pos (by omega),show (I:Int)+1=((I+1:Nat):Int) by omega,show (((I+1:Nat):Int) % ((2 ^ H:Nat):Int))=(((I+1) % 2 ^ H:Nat):Int) from (Int.natCast_emod (I+1) (2 ^ H)).symm];generalize hK:(I+1) % 2 ^ H=K at *;have hs:seed.size≤4000:=by omega
  have hm:m.size≤4000:=by omega
  have ho:o.size≤4000:=by omega
  have hz:=zlj seed H I m;have g:=z8h k hs hm h3' hlt;rw [show strL (sgL (sgB seed I (mdF seed H I m)) I (35+H))=sigS seed H I m by unfold sigS;with_reducible rfl] at g;have hr:∃ r,bytL (sigS seed H I m)=2*(I:Int) :: r:=⟨_,zos seed H (show I<64 by omega) m⟩;rw [zyi k hs h3',Option.bind_some,g,Option.bind_some];generalize sigS seed H I m=S at *;generalize valF seed H 0=V at *;obtain ⟨r,hr⟩:=hr;have hrl:(bytL S).length=1+16*(35+H):=by rw [zhg,hz]
  have hrb:=zq2 S
  -- the signature itself
  have f1:=zkb k V ho h3' hlt hz hr;have q1:=zv4 k V ho h3' hlt (s:=S.extract 1 S.size) (by rw [ByteArray.size_extract];omega);rw [zit (fun j hj=>ztd S hz hj)] at q1;have q2:=zv4 k V hm h3' hKlt (s:=S.extract 1 S.size) (by rw [ByteArray.size_extract];omega);rw [zit (fun j hj=>ztd S hz hj)] at q2
  -- with another index
  have b2:bytL (strL [2*(K:Int)]++S.extract 1 S.size)=2*(K:Int) :: (bytL S).drop 1:=by
    rw [zs9,zs8 (l:=[2*(K:Int)]) (by intro x hx;rw [List.mem_singleton] at hx;omega),zji,List.take_of_length_le (by rw [List.length_drop];omega)];rfl
  have z2:(strL [2*(K:Int)]++S.extract 1 S.size).size=1+16*(35+H):=by
    rw [size_append,zcv,ByteArray.size_extract];simp only [List.length_cons,List.length_nil];omega
  have f2:=zkb k V hm h3' hKlt z2 b2
  rw [zit (C:=fun j=>blkA (bytL S) (1+16*j)) (fun j hj=>by
    show blkA (bytL (strL [2*(K:Int)]++S.extract 1 S.size)) (1+16*j)=blkA (bytL S) (1+16*j);unfold blkA
    rw [b2,Nat.add_comm 1 (16*j),List.drop_succ_cons,List.drop_drop,Nat.add_comm 1 (16*j)])] at f2
  have ri:=zih (k+99) (show K<64 by omega)
  -- with a byte changed
  have hn:∃ n:Nat,IntKind.i64.wrap (1+(a:Int) % (IntKind.i64.wrap ((S.size:Int) - 1)))=(n:Int)∧1≤n∧n<S.size:=by
    rw [wi (show _∧(S.size:Int) - 1≤_ by omega)];have r1:=Int.emod_nonneg (a:Int) (show (S.size:Int) - 1≠0 by omega);have r2:=Int.emod_lt_of_pos (a:Int) (show 0<(S.size:Int) - 1 by omega);refine ⟨(1+(a:Int) % ((S.size:Int) - 1)).toNat,?_,by omega,by omega⟩;rw [wi (by omega)];omega
  obtain ⟨n,en,n1,n2⟩:=hn;have w1:IntKind.i64.wrap ((S.size:Int) - 1)=(S.size:Int) - 1:=wi (by omega)
  have hby:∀ x,0≤IntKind.u8.wrap x∧IntKind.u8.wrap x<256:=fun x=>by
    have:IntKind.u8.wrap x=x % 256:=by rw [IntKind.wrap_u8]
    omega
  dsimp only;simp only [en,Int.toNat_natCast];generalize hX:IntKind.u8.wrap ((bytL S).getD n default+(b:Int))=X at *;have hX2:0≤X∧X<256:=by rw [← hX];exact hby _
  have b3:bytL (strL ((bytL S).set n X))=(bytL S).set n X:=zs8 fun x hx=>by
    rcases List.mem_or_eq_of_mem_set hx with q|rfl
    · exact hrb x q
    · exact hX2
  have z3:(strL ((bytL S).set n X)).size=1+16*(35+H):=by rw [zcv,List.length_set,hrl]
  have hr3:∃ r,bytL (strL ((bytL S).set n X))=2*(I:Int) :: r:=by
    rw [b3,hr]
    match n,n1 with
    |n+1,_=>exact ⟨_,List.set_cons_succ ..⟩
  obtain ⟨r3,hr3⟩:=hr3;have l3:((bytL S).set n X).length=S.size:=by rw [List.length_set,hrl,hz]
  generalize (bytL S).set n X=L3 at *;generalize strL L3=S3 at *;have f3:=zkb k V hm h3' hlt z3 hr3;have q3:=zv4 k V hm h3' hlt (s:=S3.extract 1 S3.size) (by rw [ByteArray.size_extract];omega);rw [zit (fun j hj=>ztd S3 z3 hj)] at q3;generalize zr0 V H I o (fun j=>blkA (bytL S) (1+16*j))=R1 at *;generalize zr0 V H K m (fun j=>blkA (bytL S) (1+16*j))=R2 at *;generalize zr0 V H I m (fun j=>blkA (bytL S3) (1+16*j))=R3 at *;have e0:(1:Int).toNat=1:=rfl;rw [if_neg (by simp),Option.bind_some,if_neg (by rw [decide_eq_true_eq];omega),f1,Option.bind_some,show k+100=k+99+1 from rfl,ri,Option.bind_some,if_pos (by omega),e0,if_pos (by rw [zcv,ByteArray.size_extract];simp only [List.length_cons,List.length_nil];omega),f2,Option.bind_some,if_pos (by omega),if_pos (by rw [w1];omega),if_pos (by omega),if_pos (by omega),if_pos l3,f3,Option.bind_some,q1,Option.bind_some,q2,Option.bind_some,if_pos (by omega),q3,Option.bind_some,if_pos trivial];by_cases e1:R1=V<;>by_cases e2:R2=V<;>by_cases e3:R3=V<;>simp [e1,e2,e3]
end
end Go.Proofs.YtcgdomhednbdpaaDoor
