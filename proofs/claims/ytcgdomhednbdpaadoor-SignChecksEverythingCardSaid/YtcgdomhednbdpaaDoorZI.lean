/- Part 9 of the proof of SignChecksEverything (several texts in one; no further condition). -/
import Derived.Test.YtcgdomhednbdpaaDoorZH
import Derived.Test.YtcgdomhednbdpaaDoorZG
import Derived.Lib.Zigzag
import Derived.Lib.VarintBits
set_option linter.unusedSimpArgs false
set_option linter.unusedVariables false
set_option linter.unusedSectionVars false
namespace Go.Proofs.YtcgdomhednbdpaaDoor
section
open Go Go.RowKit
set_option maxRecDepth 100000
def zci (k:Nat) (i:Int) (j:Int) (to_:Int):Nat→Int→(Ar 16)→Option (Ar 16)
 |0,_,_=>none
 |m+1,k_,x=>(if k_≤to_ then ((zfc k [i,j,k_]).bind fun rInts=>((zeg k x).bind fun rtext=>((shOf k 1 [strL rInts,rtext]).bind fun rshOf=>zci k i j to_ m (IntKind.i64.wrap (k_+1)) rshOf))) else some x)
def zf3 (k:Nat) (i:Int) (j:Int) (v_:Ar 16) (from_:Int) (to_:Int):Option (Ar 16):=((zci k i j to_ k (IntKind.i64.wrap (from_+1)) v_:Option (Ar 16)).bind fun s_=>some s_)
set_option maxHeartbeats 8000000 in
theorem zjm (ax:Axs) (hx:Pl ax) (k:Nat) (i:Int) (j:Int) (v_:Ar 16) (from_:Int) (to_:Int) (v:Ar 16) (H:zf3 k i j v_ from_ to_=some v):Pure Tryd.prog (EE ax) GLs 29 [.int .i64 i,.int .i64 j,.agg (v_.l.map (T.int .u8)),.int .i64 from_,.int .i64 to_] (.agg (v.l.map (T.int .u8))):=by
 rw [zf3] at H;refine en [.cell 10 23] 30 [0,1,2,3,4] (hx.no _ (by decide)) (fn29 ax) ?_;intro h hh;repeat apply TW.seq
 refine rk [0,1,3,4,7,10] [] hh ?_;clear hh h;intro h hh;repeat apply TW.seq
 refine rk [0,1,4,7,10,11] [] hh ?_;clear hh h;intro h hh;obtain ⟨s_,H1,H⟩:=zal H;repeat apply TW.seq
 refine cu [7,10] 2 (fun h bs=>(h 7=.ptr 0 0 16∧h 10=.ptr 1 0 16)∧bs=[.cells true 16 (s_.l.map (T.int .u8)),.cells true 16 ((zA 16).l.map (T.int .u8))]) ?_ ?_
 ·skip;repeat apply TW.seq
  apply TW.block;repeat apply TW.seq
  refine TW.loopT [0,1,4,7,10,11] (fun m h bs=>∃ (k_:Int) (x:Ar 16),zci k i j to_ m k_ x=some s_∧(h 0=.int .i64 i∧h 1=.int .i64 j∧h 4=.int .i64 to_∧h 7=.ptr 0 0 16∧h 10=.ptr 1 0 16∧h 11=.int .i64 k_)∧bs=[.cells true 16 (x.l.map (T.int .u8)),.cells true 16 ((zA 16).l.map (T.int .u8))]) ?_ k _ _ ?_;rotate_left
  ·exact ⟨(IntKind.i64.wrap (from_+1)),v_,H1,kq hh,rfl⟩
  clear hh h H1;rintro m h bs ⟨k_,x,H1,hh,rfl⟩;rcases m with _|m
  ·rw [zci] at H1;cases H1
  rw [zci] at H1;repeat apply TW.seq
  refine rk [0,1,4,7,10,11,16] [] hh ?_;clear hh h;intro h hh;rcases isp H1 with ⟨c1,H1⟩|⟨c1,H1⟩;rotate_left
  ·skip;repeat apply TW.seq
   refine cf (f2 hh (decide_eq_false c1)) ?_;refine xk ?_;cases H1;exact ce hh ⟨kq hh,rfl⟩
  repeat apply TW.seq
  refine ct (f2 hh (decide_eq_true c1)) ?_;repeat apply TW.seq
  refine sk ?_;repeat apply TW.seq
  apply TW.block;obtain ⟨rInts,e2,H1⟩:=zal H1;obtain ⟨rtext,e3,H1⟩:=zal H1;obtain ⟨rshOf,e4,H1⟩:=zal H1;repeat apply TW.seq
  refine dk 8 [0,1,4,7,10,11] [byts rInts,.str rtext] [] [(.agg (rshOf.l.map (T.int .u8)),stL [.cells true 16 (x.l.map (T.int .u8)),.cells true 16 ((zA 16).l.map (T.int .u8))])] (f3 hh (@tStr.eq_1) (f2 (isu8 ax) (@tSrc.eq_1))) ?_ ?_ ?_
  ·exact ⟨(zkg ax hx k [i,j,k_] rInts e2 ).call _,(zh2 ax hx k x rtext e3 ).call _,trivial⟩
  ·exact ⟨za1.call ((zv0 ax hx k 1 [strL rInts,rtext] rshOf e4 ).call _),trivial⟩
  clear hh h;intro h hh;repeat apply TW.seq
  refine rk [0,1,4,7,10,11] [] hh ?_;clear hh h;intro h hh;exact rd m hh ⟨(IntKind.i64.wrap (k_+1)),rshOf,H1,kq hh,rfl⟩
 clear hh h;rintro h bs ⟨hh,rfl⟩;repeat apply TW.seq
 refine rk [10] [] hh ?_;clear hh h;intro h hh;cases H;exact rtc hh
def zg1 (k:Nat) (seed:ByteArray) (i:Int) (j:Int):Option (Ar 16):=((zfc k [i,j]).bind fun rInts=>((yde k seed (strL rInts)).bind fun rshMac=>((zhj k rshMac).bind fun rdigest=>some rdigest)))
set_option maxHeartbeats 8000000 in
theorem zmv (ax:Axs) (hx:Pl ax) (k:Nat) (seed:ByteArray) (i:Int) (j:Int) (v:Ar 16) (H:zg1 k seed i j=some v):Pure Tryd.prog (EE ax) GLs 30 [.str seed,.int .i64 i,.int .i64 j] (.agg (v.l.map (T.int .u8))):=by
 rw [zg1] at H;refine en [.cell 6 23] 15 [0,1,2] (hx.no _ (by decide)) (fn30 ax) ?_;intro h hh;repeat apply TW.seq
 refine rk [0,1,2,6] [] hh ?_;clear hh h;intro h hh;obtain ⟨rInts,e1,H⟩:=zal H;obtain ⟨rshMac,e2,H⟩:=zal H;obtain ⟨rdigest,e3,H⟩:=zal H;repeat apply TW.seq
 refine rkc [6] [] [(byts rInts,stL [.cells true 16 ((zA 16).l.map (T.int .u8))]),(.str rshMac,stL [.cells true 16 ((zA 16).l.map (T.int .u8))]),(.agg (rdigest.l.map (T.int .u8)),stL [.cells true 16 ((zA 16).l.map (T.int .u8))])] (f3 hh (@tStr.eq_1) (f2 (isu8 ax) (@tSrc.eq_1))) ?_ ?_
 ·exact ⟨za1.call ((zkg ax hx k [i,j] rInts e1 ).call _),za1.call ((ydd ax hx k seed (strL rInts) rshMac e2 ).call _),za1.call ((zle ax hx k rshMac rdigest e3 ).call _),trivial⟩
 clear hh h;intro h hh;cases H;exact rtc hh
def zg2 (k:Nat) (level:Int) (n:Int) (a:Ar 16) (b:Ar 16):Option (Ar 16):=((zfc k [level,n]).bind fun rInts=>((zeg k a).bind fun rtext=>((zeg k b).bind fun rtext2=>((shOf k 2 [strL rInts,rtext,rtext2]).bind fun rshOf=>some rshOf))))
set_option maxHeartbeats 8000000 in
theorem zkh (ax:Axs) (hx:Pl ax) (k:Nat) (level:Int) (n:Int) (a:Ar 16) (b:Ar 16) (v:Ar 16) (H:zg2 k level n a b=some v):Pure Tryd.prog (EE ax) GLs 42 [.int .i64 level,.int .i64 n,.agg (a.l.map (T.int .u8)),.agg (b.l.map (T.int .u8))] (.agg (v.l.map (T.int .u8))):=by
 rw [zg2] at H;refine en [.cell 8 23] 20 [0,1,2,3] (hx.no _ (by decide)) (fn42 ax) ?_;intro h hh;repeat apply TW.seq
 refine rk [0,1,6,7,8] [] hh ?_;clear hh h;intro h hh;obtain ⟨rInts,e1,H⟩:=zal H;obtain ⟨rtext,e2,H⟩:=zal H;obtain ⟨rtext2,e3,H⟩:=zal H;obtain ⟨rshOf,e4,H⟩:=zal H;repeat apply TW.seq
 refine dk 9 [8] [byts rInts,.str rtext,.str rtext2] [] [(.agg (rshOf.l.map (T.int .u8)),stL [.cells true 16 (a.l.map (T.int .u8)),.cells true 16 (b.l.map (T.int .u8)),.cells true 16 ((zA 16).l.map (T.int .u8))])] (f3 hh (@tStr.eq_1) (f2 (isu8 ax) (@tSrc.eq_1))) ?_ ?_ ?_
 ·exact ⟨(zkg ax hx k [level,n] rInts e1 ).call _,(zh2 ax hx k a rtext e2 ).call _,(zh2 ax hx k b rtext2 e3 ).call _,trivial⟩
 ·exact ⟨za1.call ((zv0 ax hx k 2 [strL rInts,rtext,rtext2] rshOf e4 ).call _),trivial⟩
 clear hh h;intro h hh;cases H;exact rtc hh
def zcz (k:Nat) (value:Int→Option (Ar 16)):Nat→Int→(List (Ar 16))→Nat→Option (List (Ar 16)×Nat)
 |0,_,_,_=>none
 |m+1,i,l,n=>(if i<35 then ((value i).bind fun r=>(if (n+1)*17≤1000000000 then zcz k value m (IntKind.i64.wrap (i+1)) (l++[r]) (n+1) else none)) else some (l,n))
def zie (k:Nat) (value:Int→Option (Ar 16)):Option (Ar 16):=((zcz k value k 0 [] 0:Option (List (Ar 16)×Nat)).bind fun s_=>(if s_.1.length=s_.2 then ((zgm k s_.1).bind fun rDigests=>((shOf k 1 [strL rDigests]).bind fun rshOf=>some rshOf)) else none))
set_option maxHeartbeats 8000000 in
theorem znl (ax:Axs) (hx:Pl ax) (k:Nat) (value:Int→Option (Ar 16)) (v:Ar 16) (H:zie k value=some v) (value_f:Nat) (value_c:List T) (value_i:T.idsL 0 value_c=true) (value_h:∀ (y0:Int) (w:Ar 16),value y0=some w→Pure Tryd.prog (EE ax) GLs value_f ([]++[.int .i64 y0]++value_c) (.agg (w.l.map (T.int .u8)))):Pure Tryd.prog (EE ax) GLs 40 [.fn value_f [] value_c] (.agg (v.l.map (T.int .u8))):=by
 rw [zie] at H;refine en (ha:=by simp only [zbt,zbs,idsA,idsB,value_i,Bool.and_self]) [.cell 2 23] 20 [0] (hx.no _ (by decide)) (fn40 ax) ?_;intro h hh;repeat apply TW.seq
 refine rk [0,2] [] hh ?_;clear hh h;intro h hh;repeat apply TW.seq
 refine rk [0,2,3] [] hh ?_;clear hh h;intro h hh;refine vk 3 16 [0,2,3] hh ?_;clear hh h;intro h hh;repeat apply TW.seq
 refine rk [0,2,3,5] [] hh ?_;clear hh h;intro h hh;obtain ⟨s_,H1,H⟩:=zal H;repeat apply TW.seq
 refine cu [2,3] 2 (fun h bs=>(h 2=.ptr 0 0 16∧h 3=.arr 1 16 0 s_.2 s_.2 (s_.2*16))∧bs=[.cells true 16 ((zA 16).l.map (T.int .u8)),.cells false (s_.2*16) (vecC (eAr .u8) s_.1)]) ?_ ?_
 ·skip;repeat apply TW.seq
  apply TW.block;repeat apply TW.seq
  refine TW.loopT [0,2,3,5] (fun m h bs=>∃ (i:Int) (l:List (Ar 16)) (n:Nat),zcz k value m i l n=some s_∧(h 0=.fn value_f [] value_c∧h 2=.ptr 0 0 16∧h 3=.arr 1 16 0 n n (n*16)∧h 5=.int .i64 i)∧bs=[.cells true 16 ((zA 16).l.map (T.int .u8)),.cells false (n*16) (vecC (eAr .u8) l)]) ?_ k _ _ ?_;rotate_left
  ·exact ⟨0,[],0,H1,kq hh,rfl⟩
  clear hh h H1;rintro m h bs ⟨i,l,n,H1,hh,rfl⟩;rcases m with _|m
  ·rw [zcz] at H1;cases H1
  rw [zcz] at H1;repeat apply TW.seq
  refine rk [0,2,3,5,6] [] hh ?_;clear hh h;intro h hh;rcases isp H1 with ⟨c1,H1⟩|⟨c1,H1⟩;rotate_left
  ·skip;repeat apply TW.seq
   refine cf (f2 hh (decide_eq_false c1)) ?_;refine xk ?_;cases H1;exact ce (f2 hh ((fun m=>zco (Nat.zero_le m) value_i))) ⟨kq hh,rfl⟩
  repeat apply TW.seq
  refine ct (f2 hh (decide_eq_true c1)) ?_;repeat apply TW.seq
  refine sk ?_;repeat apply TW.seq
  apply TW.block;repeat apply TW.seq
  refine rk [0,2,3,4,5] [] hh ?_;clear hh h;intro h hh;obtain ⟨r,e2,H1⟩:=zal H1;obtain ⟨g3,H1⟩:=isg H1;repeat apply TW.seq
  refine rg [] [(.agg (r.l.map (T.int .u8)),stL [.cells true 16 ((zA 16).l.map (T.int .u8)),.cells false (n*16) (vecC (eAr .u8) l)])] [.cells true 16 ((zA 16).l.map (T.int .u8)),.cells false ((n+1)*16) (vecC (eAr .u8) (l++[r]))] (fun h=>h 0=.fn value_f [] value_c∧h 2=.ptr 0 0 16∧h 3=.arr 1 16 0 (n+1) (n+1) ((n+1)*16)∧h 5=.int .i64 i) (f2 hh (@zqi .u8 16)) ?_ ?_
  ·exact ⟨za1.call ((value_h i r e2).call _),trivial⟩
  clear hh h;intro h hh;repeat apply TW.seq
  refine rk [0,2,3,5] [] hh ?_;clear hh h;intro h hh;exact rd m (f2 hh ((fun m=>zco (Nat.zero_le m) value_i))) ⟨(IntKind.i64.wrap (i+1)),(l++[r]),(n+1),H1,kq hh,rfl⟩
 clear hh h;rintro h bs ⟨hh,rfl⟩;obtain ⟨g4,H⟩:=isg H;repeat apply TW.seq
 refine TW.freeze 3 (b:=1) (e:=16) (off:=0) (len:=s_.2) (cap:=s_.2) (M:=(s_.2*16)) (s_.1.map (eAr .u8)) (kq hh) (by rfl) (by omega) (by omega) (by rw [List.drop_zero];exact znh (e:=16) (fun x=>zw3 x) g4) (fun t ht=>by obtain ⟨x,_,rfl⟩:=List.mem_map.1 ht;first|rfl|exact zhx _ | (rw [List.length_map];rfl)) (by rw [List.length_map];exact g4) (by omega) ?_;rw [zhi _ _ _ (by simp only [lzA]<;>omega)];simp only [scA];refine gk [2,3] hh ?_;clear hh h;intro h hh;obtain ⟨rDigests,e5,H⟩:=zal H;obtain ⟨rshOf,e6,H⟩:=zal H;repeat apply TW.seq
 refine rkc [2] [] [(byts rDigests,stL [.cells true 16 ((zA 16).l.map (T.int .u8)),.gone]),(.agg (rshOf.l.map (T.int .u8)),stL [.cells true 16 ((zA 16).l.map (T.int .u8)),.gone])] (f3 hh (@tStr.eq_1) (f2 (isu8 ax) (@tSrc.eq_1))) ?_ ?_
 ·exact ⟨za1.call ((zqb ax hx k s_.1 rDigests e5 ).call _),za1.call ((zv0 ax hx k 1 [strL rDigests] rshOf e6 ).call _),trivial⟩
 clear hh h;intro h hh;cases H;exact rtc hh
def zg3 (k:Nat) (height:Int) (index:Int):Option Int:=(((if index<0 then some true else ((zbm k height).bind fun rCount=>some (decide (rCount≤index)))):Option Bool).bind fun s_=>(if s_=true then some 0 else ((zd8 k index).bind fun rInt=>some (IntKind.i64.wrap ((rInt.length:Int)+(IntKind.i64.wrap (16*(IntKind.i64.wrap (35+height)))))))))
set_option maxHeartbeats 8000000 in
theorem zh3 (ax:Axs) (hx:Pl ax) (k:Nat) (height:Int) (index:Int) (v:Int) (H:zg3 k height index=some v):Pure Tryd.prog (EE ax) GLs 14 [.int .i64 height,.int .i64 index] (.int .i64 v):=by
 rw [zg3] at H;refine en [.tmp 4] 20 [0,1] (hx.no _ (by decide)) (fn14 ax) ?_;intro h hh;repeat apply TW.seq
 refine rk [0,1] [] hh ?_;clear hh h;intro h hh;obtain ⟨s_,H1,H⟩:=zal H;repeat apply TW.seq
 refine cu [0,1,12] 0 (fun h bs=>(h 0=.int .i64 height∧h 1=.int .i64 index∧h 12=.bool s_)∧bs=[]) ?_ ?_
 ·skip;rcases isp H1 with ⟨c1,H1⟩|⟨c1,H1⟩;rotate_left
  ·skip;obtain ⟨rCount,e2,H1⟩:=zal H1;repeat apply TW.seq
   refine rkc [0,1,12] [] [(.int .i64 rCount,stL [])] (f2 hh (decide_eq_false c1)) ?_ ?_
   ·exact ⟨za1.call ((zb1 ax hx k height rCount e2 ).call _),trivial⟩
   clear hh h;intro h hh;cases H1;exact ce hh ⟨kq hh,rfl⟩
  repeat apply TW.seq
  refine rk [0,1,12] [] (f2 hh (decide_eq_true c1)) ?_;clear hh h;intro h hh;cases H1;exact ce hh ⟨kq hh,rfl⟩
 clear hh h;rintro h bs ⟨hh,rfl⟩;rcases isb H with ⟨c3,H⟩|⟨c3,H⟩;rotate_left
 ·skip;repeat apply TW.seq
  refine cf (f2 hh c3) ?_;repeat apply TW.seq
  refine sk ?_;obtain ⟨rInt,e4,H⟩:=zal H;repeat apply TW.seq
  refine rkc [4] [] [(byts rInt,stL [])] (f2 hh c3) ?_ ?_
  ·exact ⟨za1.call (Pure.clr (zi7 ax hx k index rInt e4 ) (by first|rfl|simp only [c3])),trivial⟩
  clear hh h;intro h hh;cases H;exact rt hh
 repeat apply TW.seq
 refine ct (f2 hh c3) ?_;repeat apply TW.seq
 refine rk [4] [] (f2 hh c3) ?_;clear hh h;intro h hh;cases H;exact rt hh
def zc3 (k:Nat) (public_:Ar 16) (index:Int) (message:ByteArray):Option (Ar 16):=((zeg k public_).bind fun rtext=>((zd8 k index).bind fun rInt=>((shOf k 3 [rtext,strL rInt,message]).bind fun rshOf=>some rshOf)))
set_option maxHeartbeats 8000000 in
theorem zkz (ax:Axs) (hx:Pl ax) (k:Nat) (public_:Ar 16) (index:Int) (message:ByteArray) (v:Ar 16) (H:zc3 k public_ index message=some v):Pure Tryd.prog (EE ax) GLs 20 [.agg (public_.l.map (T.int .u8)),.int .i64 index,.str message] (.agg (v.l.map (T.int .u8))):=by
 rw [zc3] at H;refine en [.cell 6 23] 15 [0,1,2] (hx.no _ (by decide)) (fn20 ax) ?_;intro h hh;repeat apply TW.seq
 refine rk [1,2,3,6] [] hh ?_;clear hh h;intro h hh;obtain ⟨rtext,e1,H⟩:=zal H;obtain ⟨rInt,e2,H⟩:=zal H;obtain ⟨rshOf,e3,H⟩:=zal H;repeat apply TW.seq
 refine rkc [6] [] [(.str rtext,stL [.cells true 16 (public_.l.map (T.int .u8)),.cells true 16 ((zA 16).l.map (T.int .u8))]),(byts rInt,stL [.cells true 16 (public_.l.map (T.int .u8)),.cells true 16 ((zA 16).l.map (T.int .u8))]),(.agg (rshOf.l.map (T.int .u8)),stL [.cells true 16 (public_.l.map (T.int .u8)),.cells true 16 ((zA 16).l.map (T.int .u8))])] (f3 hh (@tStr.eq_1) (f2 (isu8 ax) (@tSrc.eq_1))) ?_ ?_
 ·exact ⟨za1.call ((zh2 ax hx k public_ rtext e1 ).call _),za1.call ((zi7 ax hx k index rInt e2 ).call _),za1.call ((zv0 ax hx k 3 [rtext,strL rInt,message] rshOf e3 ).call _),trivial⟩
 clear hh h;intro h hh;cases H;exact rtc hh
end
section
open Go Go.RowKit
set_option maxRecDepth 100000
def zey (k:Nat) (j:Int) (fv:Int) (fv2:ByteArray):Option (Ar 16):=((zg1 k fv2 fv j).bind fun rstart=>((zf3 k fv j rstart 0 15).bind fun rclimb=>some rclimb))
set_option maxHeartbeats 8000000 in
theorem zld (ax:Axs) (hx:Pl ax) (k:Nat) (j:Int) (fv:Int) (fv2:ByteArray) (v:Ar 16) (H:zey k j fv fv2=some v):Pure Tryd.prog (EE ax) GLs 47 [.int .i64 j,.cp [.int .i64 fv],.cp [.str fv2]] (.agg (v.l.map (T.int .u8))):=by
 rw [zey] at H;refine en [.cell 4 23] 12 [0,1,2] (hx.no _ (by decide)) (fn47 ax) ?_;intro h hh;repeat apply TW.seq
 refine rk [0,1,2,4] [] hh ?_;clear hh h;intro h hh;obtain ⟨rstart,e1,H⟩:=zal H;obtain ⟨rclimb,e2,H⟩:=zal H;repeat apply TW.seq
 refine dk 6 [4] [.agg (rstart.l.map (T.int .u8))] [] [(.agg (rclimb.l.map (T.int .u8)),stL [.cells true 16 ((zA 16).l.map (T.int .u8))])] hh ?_ ?_ ?_
 ·exact ⟨(zmv ax hx k fv2 fv j rstart e1 ).call _,trivial⟩
 ·exact ⟨za1.call ((zjm ax hx k fv j rstart 0 15 rclimb e2 ).call _),trivial⟩
 clear hh h;intro h hh;cases H;exact rtc hh
def zcy (k:Nat) (seed:ByteArray) (rCount:Int):Nat→Int→(List (Ar 16))→Nat→Option (List (Ar 16)×Nat)
 |0,_,_,_=>none
 |m+1,i,l,n=>(if i<rCount then ((zie k (fun y=>zey k y i seed)).bind fun rleaf=>(if (n+1)*17≤1000000000 then zcy k seed rCount m (IntKind.i64.wrap (i+1)) (l++[rleaf]) (n+1) else none)) else some (l,n))
def zcw (k:Nat) (i2:Int) (l2:List (List (Ar 16))):Nat→Int→(List (Ar 16))→Nat→Option (List (Ar 16)×Nat)
 |0,_,_,_=>none
 |m+1,i3,l3,n3=>(if i3<(IntKind.i64.wrap (((l2.getD i2.toNat default).length:Int) / 2)) then (if (0:Int)≤(IntKind.i64.wrap (2*i3))∧(IntKind.i64.wrap (2*i3))<((l2.getD i2.toNat default).length:Int) then (if (0:Int)≤(IntKind.i64.wrap ((IntKind.i64.wrap (2*i3))+1))∧(IntKind.i64.wrap ((IntKind.i64.wrap (2*i3))+1))<((l2.getD i2.toNat default).length:Int) then ((zg2 k (IntKind.i64.wrap (i2+1)) i3 (gx (l2.getD i2.toNat default) (IntKind.i64.wrap (2*i3))) (gx (l2.getD i2.toNat default) (IntKind.i64.wrap ((IntKind.i64.wrap (2*i3))+1)))).bind fun rjoin=>(if (n3+1)*17≤1000000000 then zcw k i2 l2 m (IntKind.i64.wrap (i3+1)) (l3++[rjoin]) (n3+1) else none)) else none) else none) else some (l3,n3))
def zcx (k:Nat) (height:Int):Nat→Int→(List (List (Ar 16)))→Nat→Option (List (List (Ar 16))×Nat)
 |0,_,_,_=>none
 |m+1,i2,l2,n2=>(if i2<height then (((if (0:Int)≤i2∧i2<(n2:Int) then (if i2.toNat<l2.length then (if (0:Int)≤((l2.getD i2.toNat default).length:Int)∧0<2 then ((zcw k i2 l2 k 0 [] 0:Option (List (Ar 16)×Nat)).bind fun s_4=>(if s_4.1.length=s_4.2 then (if (n2+1)*25≤1000000000 then some (l2++[s_4.1]) else none) else none)) else none) else none) else none):Option (List (List (Ar 16)))).bind fun s_3=>zcx k height m (IntKind.i64.wrap (i2+1)) s_3 (n2+1)) else some (l2,n2))
def zid (k:Nat) (seed:ByteArray) (height:Int):Option (List (List (Ar 16))):=((zbm k height).bind fun rCount=>((zcy k seed rCount k 0 [] 0:Option (List (Ar 16)×Nat)).bind fun s_=>(((if s_.1.length=s_.2 then zcx k height k 0 [s_.1] 1 else none):Option (List (List (Ar 16))×Nat)).bind fun s_2=>(if s_2.1.length=s_2.2 then some s_2.1 else none))))
set_option maxHeartbeats 8000000 in
theorem znk (ax:Axs) (hx:Pl ax) (k:Nat) (seed:ByteArray) (height:Int) (v:List (List (Ar 16))) (H:zid k seed height=some v):Pure Tryd.prog (EE ax) GLs 27 [.str seed,.int .i64 height] (zs0 v):=by
 rw [zid] at H;refine en [.tmp 4] 70 [0,1] (hx.no _ (by decide)) (fn27 ax) ?_;intro h hh;repeat apply TW.seq
 refine rk [1,2] [] hh ?_;clear hh h;intro h hh;refine zk 2 0 1 true [.str seed] [1,2] hh ?_;clear hh h;intro h hh;repeat apply TW.seq
 refine rk [1,2,5] [] (f2 hh rep1N) ?_;clear hh h;intro h hh;refine vz 1 0 16 ?_;obtain ⟨rCount,e1,H⟩:=zal H;repeat apply TW.seq
 refine rkc [1,2,5,12,13] [] [(.int .i64 rCount,stL [.gone,.cells true 1 [.arr 2 16 0 0 0 0],.cells false 0 (vecC (eAr .u8) ([]:List (Ar 16)))])] hh ?_ ?_
 ·exact ⟨za1.call ((zb1 ax hx k height rCount e1 ).call _),trivial⟩
 clear hh h;intro h hh;obtain ⟨s_,H1,H⟩:=zal H;repeat apply TW.seq
 refine cu [1,5] 3 (fun h bs=>(h 1=.int .i64 height∧h 5=.arr 1 1 0 1 1 1)∧bs=[.gone,.cells true 1 [.arr 2 16 0 s_.2 s_.2 (s_.2*16)],.cells false (s_.2*16) (vecC (eAr .u8) s_.1)]) ?_ ?_
 ·skip;repeat apply TW.seq
  apply TW.block;repeat apply TW.seq
  refine TW.loopT [1,2,5,12,13] (fun m h bs=>∃ (i:Int) (l:List (Ar 16)) (n:Nat),zcy k seed rCount m i l n=some s_∧(h 1=.int .i64 height∧h 2=.cp [.str seed]∧h 5=.arr 1 1 0 1 1 1∧h 12=.int .i64 rCount∧h 13=.int .i64 i)∧bs=[.gone,.cells true 1 [.arr 2 16 0 n n (n*16)],.cells false (n*16) (vecC (eAr .u8) l)]) ?_ k _ _ ?_;rotate_left
  ·exact ⟨0,[],0,H1,kq hh,rfl⟩
  clear hh h H1;rintro m h bs ⟨i,l,n,H1,hh,rfl⟩;rcases m with _|m
  ·rw [zcy] at H1;cases H1
  rw [zcy] at H1;repeat apply TW.seq
  refine rk [1,2,5,12,13,14] [] hh ?_;clear hh h;intro h hh;rcases isp H1 with ⟨c2,H1⟩|⟨c2,H1⟩;rotate_left
  ·skip;repeat apply TW.seq
   refine cf (f2 hh (decide_eq_false c2)) ?_;refine xk ?_;cases H1;exact ce hh ⟨kq hh,rfl⟩
  repeat apply TW.seq
  refine ct (f2 hh (decide_eq_true c2)) ?_;repeat apply TW.seq
  refine sk ?_;repeat apply TW.seq
  apply TW.block;repeat apply TW.seq
  refine rk [1,2,5,6,12,13] [] hh ?_;clear hh h;intro h hh;refine zk 6 3 1 true [.int .i64 i] [1,2,5,6,12,13] hh ?_;clear hh h;intro h hh;obtain ⟨rleaf,e3,H1⟩:=zal H1;obtain ⟨g4,H1⟩:=isg H1;repeat apply TW.seq
  refine dg 6 [.agg (rleaf.l.map (T.int .u8))] [] [] [.gone,.cells true 1 [.arr 2 16 0 (n+1) (n+1) ((n+1)*16)],.cells false ((n+1)*16) (vecC (eAr .u8) (l++[rleaf])),.gone] (fun h=>h 1=.int .i64 height∧h 2=.cp [.str seed]∧h 5=.arr 1 1 0 1 1 1∧h 12=.int .i64 rCount∧h 13=.int .i64 i) (f3 hh ((show (0:Int).toNat=0 from rfl)) (@zqi .u8 16)) ?_ trivial ?_
  ·exact ⟨(znl ax hx k (fun y=>zey k y i seed) rleaf e3 47 [.cp [.int .i64 i],.cp [.str seed]] (by simp only [zbt,zbs,idsA,idsB,Bool.and_self]) (fun y w hw=>by first|exact zld ax hx k y i seed w hw|exact (zld ax hx k y i seed w hw))).call _,trivial⟩
  clear hh h;intro h hh;repeat apply TW.seq
  refine rk [1,2,5,12,13] [] hh ?_;clear hh h;intro h hh;exact rd m hh ⟨(IntKind.i64.wrap (i+1)),(l++[rleaf]),(n+1),H1,kq hh,rfl⟩
 clear hh h;rintro h bs ⟨hh,rfl⟩;repeat apply TW.seq
 refine rk [5,26,27] [] hh ?_;clear hh h;intro h hh;obtain ⟨s_2,H1,H⟩:=zal H;repeat apply TW.seq
 refine cu [5] 3 (fun h bs=>(h 5=.arr 1 1 0 s_2.2 s_2.2 s_2.2)∧bs=[.gone,.cells false s_2.2 (s_2.1.map digs),.gone]) ?_ ?_
 ·skip;repeat apply TW.seq
  apply TW.block;obtain ⟨g5,H1⟩:=isg H1;repeat apply TW.seq
  refine fz 1 2 0 (s_.1.map (eAr .u8)) (by rw [List.drop_zero];exact znh (e:=16) (fun x=>zw3 x) g5) (fun t ht=>by obtain ⟨x,_,rfl⟩:=List.mem_map.1 ht;first|rfl|exact zhx _ | (rw [List.length_map];rfl)) (by rw [List.length_map];exact g5) ?_;repeat apply TW.seq
  refine uz 1 ?_;repeat apply TW.seq
  refine TW.loopT [5,26,27] (fun m h bs=>∃ (i2:Int) (l2:List (List (Ar 16))) (n2:Nat),zcx k height m i2 l2 n2=some s_2∧(h 5=.arr 1 1 0 n2 n2 n2∧h 26=.int .i64 height∧h 27=.int .i64 i2)∧bs=[.gone,.cells false n2 (l2.map digs),.gone]) ?_ k _ _ ?_;rotate_left
  ·exact ⟨0,[s_.1],1,H1,kq hh,rfl⟩
  clear hh h H1;rintro m h bs ⟨i2,l2,n2,H1,hh,rfl⟩;rcases m with _|m
  ·rw [zcx] at H1;cases H1
  rw [zcx] at H1;repeat apply TW.seq
  refine rk [5,26,27,28] [] hh ?_;clear hh h;intro h hh;rcases isp H1 with ⟨c6,H1⟩|⟨c6,H1⟩;rotate_left
  ·skip;repeat apply TW.seq
   refine cf (f2 hh (decide_eq_false c6)) ?_;refine xk ?_;cases H1;exact ce hh ⟨kq hh,rfl⟩
  repeat apply TW.seq
  refine ct (f2 hh (decide_eq_true c6)) ?_;repeat apply TW.seq
  refine sk ?_;obtain ⟨s_3,H2,H1⟩:=zal H1;repeat apply TW.seq
  refine cu [5,26,27] 3 (fun h bs=>(h 5=.arr 1 1 0 (n2+1) (n2+1) (n2+1)∧h 26=.int .i64 height∧h 27=.int .i64 i2)∧bs=[.gone,.cells false (n2+1) (s_3.map digs),.gone]) ?_ ?_
  ·skip;repeat apply TW.seq
   apply TW.block;repeat apply TW.seq
   refine rk [5,7,26,27] [] hh ?_;clear hh h;intro h hh;repeat apply TW.seq
   refine rk [5,7,8,26,27] [] hh ?_;clear hh h;intro h hh;refine vk 8 16 [5,7,8,26,27] hh ?_;clear hh h;intro h hh;obtain ⟨g7,H2⟩:=isg H2;obtain ⟨g8,H2⟩:=isg H2;obtain ⟨g9,H2⟩:=isg H2;repeat apply TW.seq
   refine rk [5,7,8,26,27,35,36] [] (f2 hh (zqv g8)) ?_;clear hh h;intro h hh;obtain ⟨s_4,H3,H2⟩:=zal H2;repeat apply TW.seq
   refine cu [5,8,26,27] 4 (fun h bs=>(h 5=.arr 1 1 0 n2 n2 n2∧h 8=.arr 3 16 0 s_4.2 s_4.2 (s_4.2*16)∧h 26=.int .i64 height∧h 27=.int .i64 i2)∧bs=[.gone,.cells false n2 (l2.map digs),.gone,.cells false (s_4.2*16) (vecC (eAr .u8) s_4.1)]) ?_ ?_
   ·skip;repeat apply TW.seq
    apply TW.block;repeat apply TW.seq
    refine TW.loopT [5,7,8,26,27,35,36] (fun m h bs=>∃ (i3:Int) (l3:List (Ar 16)) (n3:Nat),zcw k i2 l2 m i3 l3 n3=some s_4∧(h 5=.arr 1 1 0 n2 n2 n2∧h 7=.int .i64 i2∧h 8=.arr 3 16 0 n3 n3 (n3*16)∧h 26=.int .i64 height∧h 27=.int .i64 i2∧h 35=.int .i64 (IntKind.i64.wrap (((l2.getD i2.toNat default).length:Int) / 2))∧h 36=.int .i64 i3)∧bs=[.gone,.cells false n2 (l2.map digs),.gone,.cells false (n3*16) (vecC (eAr .u8) l3)]) ?_ k _ _ ?_;rotate_left
    ·exact ⟨0,[],0,H3,kq hh,rfl⟩
    clear hh h H3;rintro m h bs ⟨i3,l3,n3,H3,hh,rfl⟩;rcases m with _|m
    ·rw [zcw] at H3;cases H3
    rw [zcw] at H3;repeat apply TW.seq
    refine rk [5,7,8,26,27,35,36,37] [] hh ?_;clear hh h;intro h hh;rcases isp H3 with ⟨c10,H3⟩|⟨c10,H3⟩;rotate_left
    ·skip;repeat apply TW.seq
     refine cf (f2 hh (decide_eq_false c10)) ?_;refine xk ?_;cases H3;exact ce hh ⟨kq hh,rfl⟩
    repeat apply TW.seq
    refine ct (f2 hh (decide_eq_true c10)) ?_;repeat apply TW.seq
    refine sk ?_;repeat apply TW.seq
    apply TW.block;repeat apply TW.seq
    refine rk [5,7,8,9,26,27,35,36] [] hh ?_;clear hh h;intro h hh;obtain ⟨g11,H3⟩:=isg H3;obtain ⟨g12,H3⟩:=isg H3;obtain ⟨rjoin,e13,H3⟩:=zal H3;obtain ⟨g14,H3⟩:=isg H3;repeat apply TW.seq
    refine dg 21 [] [] [(.agg (rjoin.l.map (T.int .u8)),stL [.gone,.cells false n2 (l2.map digs),.gone,.cells false (n3*16) (vecC (eAr .u8) l3)])] [.gone,.cells false n2 (l2.map digs),.gone,.cells false ((n3+1)*16) (vecC (eAr .u8) (l3++[rjoin]))] (fun h=>h 5=.arr 1 1 0 n2 n2 n2∧h 7=.int .i64 i2∧h 8=.arr 3 16 0 (n3+1) (n3+1) ((n3+1)*16)∧h 26=.int .i64 height∧h 27=.int .i64 i2∧h 35=.int .i64 (IntKind.i64.wrap (((l2.getD i2.toNat default).length:Int) / 2))∧h 36=.int .i64 i3) (f3 hh (zqv g8) (f3 (zgu g11) (zgu g12) (@zqi .u8 16))) trivial ?_ ?_
    ·exact ⟨za1.call ((zkh ax hx k (IntKind.i64.wrap (i2+1)) i3 (gx (l2.getD i2.toNat default) (IntKind.i64.wrap (2*i3))) (gx (l2.getD i2.toNat default) (IntKind.i64.wrap ((IntKind.i64.wrap (2*i3))+1))) rjoin e13 ).call _),trivial⟩
    clear hh h;intro h hh;repeat apply TW.seq
    refine rk [5,7,8,26,27,35,36] [] hh ?_;clear hh h;intro h hh;exact rd m hh ⟨(IntKind.i64.wrap (i3+1)),(l3++[rjoin]),(n3+1),H3,kq hh,rfl⟩
   clear hh h;rintro h bs ⟨hh,rfl⟩;obtain ⟨g15,H2⟩:=isg H2;repeat apply TW.seq
   refine TW.freeze 8 (b:=3) (e:=16) (off:=0) (len:=s_4.2) (cap:=s_4.2) (M:=(s_4.2*16)) (s_4.1.map (eAr .u8)) (kq hh) (by rfl) (by omega) (by omega) (by rw [List.drop_zero];exact znh (e:=16) (fun x=>zw3 x) g15) (fun t ht=>by obtain ⟨x,_,rfl⟩:=List.mem_map.1 ht;first|rfl|exact zhx _ | (rw [List.length_map];rfl)) (by rw [List.length_map];exact g15) (by omega) ?_;rw [zhi _ _ _ (by simp only [lzA]<;>omega)];simp only [scA];refine gk [5,8,26,27] hh ?_;clear hh h;intro h hh;obtain ⟨g16,H2⟩:=isg H2;repeat apply TW.seq
   refine rg [] [] [.gone,.cells false (n2+1) ((l2++[s_4.1]).map digs),.gone,.gone] (fun h=>h 5=.arr 1 1 0 (n2+1) (n2+1) (n2+1)∧h 26=.int .i64 height∧h 27=.int .i64 i2) hh trivial ?_;clear hh h;intro h hh;cases H2;exact ce hh ⟨kq hh,rfl⟩
  clear hh h;rintro h bs ⟨hh,rfl⟩;repeat apply TW.seq
  refine rk [5,26,27] [] hh ?_;clear hh h;intro h hh;exact rd m hh ⟨(IntKind.i64.wrap (i2+1)),s_3,(n2+1),H1,kq hh,rfl⟩
 clear hh h;rintro h bs ⟨hh,rfl⟩;repeat apply TW.seq
 refine rk [4] [] hh ?_;clear hh h;intro h hh;obtain ⟨g17,H⟩:=isg H;refine TW.freeze 4 (b:=1) (e:=1) (off:=0) (len:=s_2.2) (cap:=s_2.2) (M:=s_2.2) (s_2.1.map digs) (kq hh) (by rfl) (by omega) (by omega) (by rw [List.drop_zero,Nat.mul_one,zfu (fun _=>rfl),List.take_of_length_le (by rw [List.length_map];omega)]) (fun t ht=>by obtain ⟨x,_,rfl⟩:=List.mem_map.1 ht;first|rfl|exact zhx _ | (rw [List.length_map];rfl)) (by rw [List.length_map];exact g17) (by omega) ?_;rw [zhi _ _ _ (by simp only [lzA]<;>omega)];simp only [scA];refine gk [4] hh ?_;clear hh h;intro h hh;cases H;exact rt hh
def zc2 (k:Nat) (seed:ByteArray) (height:Int):Option (Ar 16×Int):=((zbm k height).bind fun rCount=>(if rCount=0 then some ((zA 16),1) else ((zid k seed height).bind fun rtree=>(if (0:Int)≤height∧height<(rtree.length:Int) then (if (0:Int)≤0∧0<((gx rtree height).length:Int) then some (gx (gx rtree height) 0,0) else none) else none))))
set_option maxHeartbeats 8000000 in
theorem ziq (ax:Axs) (hx:Pl ax) (k:Nat) (seed:ByteArray) (height:Int) (v:Ar 16×Int) (H:zc2 k seed height=some v):Pure Tryd.prog (EE ax) GLs 16 [.str seed,.int .i64 height] (tupT [.agg (v.1.l.map (T.int .u8)),.int .i64 v.2]):=by
 rw [zc2] at H;refine enN [.cell 4 23,.tmp 5] 18 [0,1] (hx.no _ (by decide)) (fn16 ax) ?_;intro h hh;repeat apply TW.seq
 refine rk [0,1,4] [] hh ?_;clear hh h;intro h hh;obtain ⟨rCount,e1,H⟩:=zal H;repeat apply TW.seq
 refine rkc [0,1,4,8] [] [(.int .i64 rCount,stL [.cells true 16 ((zA 16).l.map (T.int .u8))])] hh ?_ ?_
 ·exact ⟨za1.call ((zb1 ax hx k height rCount e1 ).call _),trivial⟩
 clear hh h;intro h hh;rcases isp H with ⟨c2,H⟩|⟨c2,H⟩;rotate_left
 ·skip;repeat apply TW.seq
  refine cf (f2 hh (decide_eq_false c2)) ?_;repeat apply TW.seq
  refine sk ?_;obtain ⟨rtree,e3,H⟩:=zal H;obtain ⟨g4,H⟩:=isg H;obtain ⟨g5,H⟩:=isg H;repeat apply TW.seq
  refine rkc [4,5] [] [(zs0 rtree,stL [.cells true 16 ((zA 16).l.map (T.int .u8))])] (f3 hh (zgu g4) (zgu g5)) ?_ ?_
  ·exact ⟨za1.call ((znk ax hx k seed height rtree e3 ).call _),trivial⟩
  clear hh h;intro h hh;cases H;exact rtc hh
 repeat apply TW.seq
 refine ct (f2 hh (decide_eq_true c2)) ?_;repeat apply TW.seq
 refine rk [4,5] [] (f2 hh (bz23 ax)) ?_;clear hh h;intro h hh;cases H;exact rtc hh
end
section
open Go Go.RowKit
set_option maxRecDepth 100000
theorem yi6:∀ n:_root_.Fin 64,IntKind.u64.wrap (((BitVec.ofInt IntKind.u64.bits (IntKind.u64.wrap ((IntKind.u64.wrap ((n.val:Nat):Int))*2 ^ (min (1:Int).toNat IntKind.u64.bits))) ^^^ BitVec.ofInt IntKind.u64.bits (IntKind.u64.wrap (((n.val:Nat):Int).fdiv (2 ^ (min (63:Int).toNat IntKind.i64.bits))))).toNat:Int))=2*((n.val:Nat):Int):=by decide +kernel
theorem u8n {n:Nat} (h:n<64):IntKind.u8.wrap (2*(n:Int))=2*(n:Int):=z4d (by omega)
theorem ziy (k:Nat) {n:Nat} (h:n<64):zd8 (k+1) (n:Int)=some [2*(n:Int)]:=by
  unfold zd8;rw [if_pos (by omega),if_pos (by omega),yi6 ⟨n,h⟩];simp only;rw [zcu,if_neg (by omega)];simp only [Option.bind_some];rw [u8n h,if_pos (by omega),if_pos (by rfl)];rfl
theorem zmh (k:Nat) {n:Nat} (h:n<64):zf2 (k+1) (n:Int)=some ([2*(n:Int)],1):=by
  unfold zf2;rw [if_pos (by omega),if_pos (by omega),yi6 ⟨n,h⟩];simp only;rw [zef,if_neg (by omega)];simp only [Option.bind_some];rw [u8n h,if_pos (by omega)];rfl
def catL (f:Nat→List Int):Nat→Nat→List Int
  |_,0=>[]
  |i,n+1=>f i++catL f (i+1) n
def mapR {α:Type} (f:Nat→α):Nat→Nat→List α
  |_,0=>[]
  |i,n+1=>f i :: mapR f (i+1) n
theorem zep {α:Type} (f:Nat→α):∀ (n i:Nat),(mapR f i n).length=n
  |0,_=>rfl
  |n+1,i=>by rw [mapR,List.length_cons,zep f n (i+1)]
theorem zy2 {α:Type} (f:Nat→α):∀ (n i:Nat),mapR f i (n+1)=mapR f i n++[f (i+n)]
  |0,i=>rfl
  |n+1,i=>by
    show f i :: mapR f (i+1) (n+1)=_;rw [zy2 f n (i+1)];show _=(f i :: mapR f (i+1) n)++_;rw [List.cons_append,show i+1+n=i+(n+1) by omega]
theorem zje {α:Type} [Inhabited α] (f:Nat→α):∀ (n i j:Nat),j<n→gx (mapR f i n) (j:Int)=f (i+j)
  |n+1,i,0,h=>rfl
  |n+1,i,j+1,h=>by
    have:=zje f n (i+1) j (by omega);rw [show i+1+j=i+(j+1) by omega] at this;rw [← this];rfl
theorem zq1 (f:Nat→List Int) (c:Nat):∀ (n i:Nat),(∀ j,i≤j→j<i+n→(f j).length=c)→(catL f i n).length=c*n
  |0,i,h=>rfl
  |n+1,i,h=>by
    show (f i++catL f (i+1) n).length=_;rw [List.length_append,h i (by omega) (by omega),zq1 f c n (i+1) (fun j h1 h2=>h j (by omega) (by omega)),Nat.mul_succ];omega
theorem zvb {f g:Nat→List Int}:∀ (n i:Nat),(∀ j,i≤j→j<i+n→f j=g j)→catL f i n=catL g i n
  |0,i,h=>rfl
  |n+1,i,h=>by
    show f i++_=g i++_;rw [h i (by omega) (by omega),zvb n (i+1) fun j h1 h2=>h j (by omega) (by omega)]
theorem zqs (k:Nat) (l:List Int) (one:Int→Option (List Int)) (f:Nat→List Int) (hf:∀ j:Nat,j<l.length→one (gx l (j:Int))=some (f j)∧(f j).length≤100) (hl:l.length≤1000):∀ (n i m:Nat) (a:List Int) (c:Nat),i+n=l.length→n<m→c≤1000+100*i→a.length=c→zbz k l one m (i:Int) a c=some (a++catL f i n,c+(catL f i n).length)
  |0,i,m+1,a,c,h1,h2,h3,h4=>by
    rw [zbz,if_neg (by omega)]
    simp [catL]
  |n+1,i,m+1,a,c,h1,h2,h3,h4=>by
    have hi:=hf i (by omega);rw [zbz,if_pos (by omega),if_pos (by omega),hi.1];simp only [Option.bind_some];rw [if_pos (by omega),wi (by omega)];by_cases h0:(f i).length=0
    · rw [if_pos h0];have e:f i=[]:=List.eq_nil_of_length_eq_zero h0;have:=zqs k l one f hf hl n (i+1) m a c (by omega) (by omega) (by omega) h4;rw [show catL f i (n+1)=catL f (i+1) n by show f i++_=_;rw [e];rfl];exact this
    · rw [if_neg h0];have:=zqs k l one f hf hl n (i+1) m (a++f i) (c+(f i).length) (by omega) (by omega) (by omega) (by rw [List.length_append,h4]);rw [show ((i:Int)+1)=((i+1:Nat):Int) by omega,this];show some (a++f i++catL f (i+1) n,_)=some (a++(f i++catL f (i+1) n),c+(f i++catL f (i+1) n).length);rw [List.append_assoc,List.length_append,Nat.add_assoc]
theorem zwn (k:Nat) (l:List Dg) (one:Dg→Option (List Int)) (f:Nat→List Int) (hf:∀ j:Nat,j<l.length→one (gx l (j:Int))=some (f j)∧(f j).length≤100) (hl:l.length≤1000):∀ (n i m:Nat) (a:List Int) (c:Nat),i+n=l.length→n<m→c≤1000+100*i→a.length=c→zb0 k l one m (i:Int) a c=some (a++catL f i n,c+(catL f i n).length)
  |0,i,m+1,a,c,h1,h2,h3,h4=>by
    rw [zb0,if_neg (by omega)]
    simp [catL]
  |n+1,i,m+1,a,c,h1,h2,h3,h4=>by
    have hi:=hf i (by omega);rw [zb0,if_pos (by omega),if_pos (by omega),hi.1];simp only [Option.bind_some];rw [if_pos (by omega),wi (by omega)];by_cases h0:(f i).length=0
    · rw [if_pos h0];have e:f i=[]:=List.eq_nil_of_length_eq_zero h0;have:=zwn k l one f hf hl n (i+1) m a c (by omega) (by omega) (by omega) h4;rw [show catL f i (n+1)=catL f (i+1) n by show f i++_=_;rw [e];rfl];exact this
    · rw [if_neg h0];have:=zwn k l one f hf hl n (i+1) m (a++f i) (c+(f i).length) (by omega) (by omega) (by omega) (by rw [List.length_append,h4]);rw [show ((i:Int)+1)=((i+1:Nat):Int) by omega,this];show some (a++f i++catL f (i+1) n,_)=some (a++(f i++catL f (i+1) n),c+(f i++catL f (i+1) n).length);rw [List.append_assoc,List.length_append,Nat.add_assoc]
theorem ykf (k:Nat) {a b:Nat} (ha:a<64) (hb:b<64):zfc (k+10) [(a:Int),(b:Int)]=some [4,2*(a:Int),2*(b:Int)]:=by
  unfold zfc zio;rw [show (([(a:Int),(b:Int)]:List Int).length:Int)=((2:Nat):Int) from rfl,zmh (k+9) (by omega)];simp only [Option.bind_some]
  have:=zqs (k+10) [(a:Int),(b:Int)] (fun y=>zd8 (k+10) y) (fun j=>[2*gx [(a:Int),(b:Int)] (j:Int)]) (fun j hj=>by
    have:j=0∨j=1:=by simp only [List.length_cons,List.length_nil] at hj;omega
    rcases this with rfl|rfl
    · exact ⟨ziy (k+9) ha,by simp⟩
    · exact ⟨ziy (k+9) hb,by simp⟩) (by simp) 2 0 (k+10) [2*((2:Nat):Int)] 1 rfl (by omega) (by omega) rfl
  rw [show ((0:Nat):Int)=0 from rfl] at this;rw [this];simp only [Option.bind_some];rw [if_pos (by rfl)];rfl
theorem ints3 (k:Nat) {a b c:Nat} (ha:a<64) (hb:b<64) (hc:c<64):zfc (k+10) [(a:Int),(b:Int),(c:Int)]=some [6,2*(a:Int),2*(b:Int),2*(c:Int)]:=by
  unfold zfc zio;rw [show (([(a:Int),(b:Int),(c:Int)]:List Int).length:Int)=((3:Nat):Int) from rfl,zmh (k+9) (by omega)];simp only [Option.bind_some]
  have:=zqs (k+10) [(a:Int),(b:Int),(c:Int)] (fun y=>zd8 (k+10) y) (fun j=>[2*gx [(a:Int),(b:Int),(c:Int)] (j:Int)]) (fun j hj=>by
    have:j=0∨j=1∨j=2:=by simp only [List.length_cons,List.length_nil] at hj;omega
    rcases this with rfl|rfl|rfl
    · exact ⟨ziy (k+9) ha,by simp⟩
    · exact ⟨ziy (k+9) hb,by simp⟩
    · exact ⟨ziy (k+9) hc,by simp⟩) (by simp) 3 0 (k+10) [2*((3:Nat):Int)] 1 rfl (by omega) (by omega) rfl
  rw [show ((0:Nat):Int)=0 from rfl] at this;rw [this];simp only [Option.bind_some];rw [if_pos (by rfl)];rfl
theorem yg9 (k:Nat) (d:Dg):zdu k d=some d.l:=by
  unfold zdu zgn;rw [if_pos (by omega)];simp only [Option.bind_some];rw [if_pos d.h]
theorem yih (k:Nat) (f:Nat→Dg):zgm (k+50) (mapR f 0 35)=some ([70]++catL (fun j=>(f j).l) 0 35):=by
  unfold zgm zkf;have hl:(mapR f 0 35).length=35:=zep f 35 0;rw [hl,zmh (k+49) (by omega)];simp only [Option.bind_some]
  have:=zwn (k+50) (mapR f 0 35) (fun y=>zdu (k+50) y) (fun j=>(f j).l) (fun j hj=>by
    rw [hl] at hj;refine ⟨?_,by rw [(f j).h];omega⟩;have e:=zje f 35 0 j hj;rw [Nat.zero_add] at e;show zdu (k+50) (gx (mapR f 0 35) (j:Int))=_
    rw [yg9,e]) (by omega) 35 0 (k+50) [2*((35:Nat):Int)] 1 (by omega) (by omega) (by omega) rfl
  rw [show ((0:Nat):Int)=0 from rfl] at this;rw [this];simp only [Option.bind_some];rw [if_pos (by rw [List.length_append];rfl)];rfl
theorem zcv (l:List Int):(strL l).size=l.length:=by
  show (l.map u8o).toArray.size=_;rw [List.size_toArray,List.length_map]
theorem yju (k:Nat) (t:Int) {a b:ByteArray} (ha:a.size≤4000) (hb:b.size≤4000):shOf k t [a,b]=some (ofD t [a,b]):=if_pos ⟨by simp,fun x hx=>by
  simp only [List.mem_cons,List.not_mem_nil,or_false] at hx;rcases hx with rfl|rfl
  · exact ha
  · exact hb⟩
theorem yjv (k:Nat) (t:Int) {a:ByteArray} (ha:a.size≤4000):shOf k t [a]=some (ofD t [a]):=if_pos ⟨by simp,fun x hx=>by
  simp only [List.mem_cons,List.not_mem_nil,or_false] at hx
  rw [hx];exact ha⟩
theorem ydc (k:Nat) (t:Int) {a b c:ByteArray} (ha:a.size≤4000) (hb:b.size≤4000) (hc:c.size≤4000):shOf k t [a,b,c]=some (ofD t [a,b,c]):=if_pos ⟨by simp,fun x hx=>by
  simp only [List.mem_cons,List.not_mem_nil,or_false] at hx;rcases hx with rfl|rfl|rfl
  · exact ha
  · exact hb
  · exact hc⟩
theorem zlw (d:Dg):(strL d.l).size≤4000:=by rw [zcv,d.h];omega
def stp (i j t:Nat) (v:Dg):Dg:=ofD 1 [strL [6,2*(i:Int),2*(j:Int),2*(t:Int)],strL v.l]
def zdt (i j:Nat):Nat→Nat→Dg→Dg
  |_,0,v=>v
  |t,n+1,v=>zdt i j (t+1) n (stp i j t v)
theorem zu9 (i j:Nat):∀ (a t b:Nat) (v:Dg),zdt i j (t+a) b (zdt i j t a v)=zdt i j t (a+b) v
  |0,t,b,v=>by rw [Nat.zero_add];rfl
  |a+1,t,b,v=>by
    rw [show a+1+b=(a+b)+1 by omega];show zdt i j (t+(a+1)) b (zdt i j (t+1) a (stp i j t v))=zdt i j (t+1) (a+b) (stp i j t v);rw [← zu9 i j a (t+1) b,show t+(a+1)=t+1+a by omega]
theorem z5h (k:Nat) {i j:Nat} (hi:i<64) (hj:j<64) (to':Nat) (hto:to'≤15):∀ (n t m:Nat) (x:Dg),t+n=to'+1→n<m→zci (k+10) (i:Int) (j:Int) (to':Int) m (t:Int) x=some (zdt i j t n x)
  |0,t,m+1,x,h1,h2=>by
    rw [zci,if_neg (by omega)];rfl
  |n+1,t,m+1,x,h1,h2=>by
    rw [zci,if_pos (by omega),ints3 k hi hj (show t<64 by omega)];simp only [Option.bind_some];unfold zeg;simp only [Option.bind_some];rw [yju _ _ (by rw [zcv];simp) (zlw _)];simp only [Option.bind_some];rw [wi (by omega)];exact z5h k hi hj to' hto n (t+1) m _ (by omega) (by omega)
theorem zxa (k:Nat) {i j:Nat} (hi:i<64) (hj:j<64) {fr to':Nat} (h:fr≤to') (hto:to'≤15) (v:Dg):zf3 (k+30) (i:Int) (j:Int) v (fr:Int) (to':Int)=some (zdt i j (fr+1) (to' - fr) v):=by
  unfold zf3;rw [wi (by omega)];have:=z5h (k+20) hi hj to' hto (to' - fr) (fr+1) (k+30) v (by omega) (by omega);rw [show ((fr+1:Nat):Int)=(fr:Int)+1 by omega] at this;rw [this];rfl
def zlc (seed:ByteArray) (i j:Nat):Dg:=cpA (zA 16) (macS seed (strL [4,2*(i:Int),2*(j:Int)]))
theorem z2s (k:Nat) {seed:ByteArray} (hs:seed.size≤4000) {i j:Nat} (hi:i<64) (hj:j<64):zg1 (k+10) seed (i:Int) (j:Int)=some (zlc seed i j):=by
  unfold zg1;rw [ykf k hi hj];simp only [Option.bind_some];rw [show yde (k+10) seed (strL [4,2*(i:Int),2*(j:Int)])=some (macS seed (strL [4,2*(i:Int),2*(j:Int)])) from if_pos ⟨hs,by rw [zcv];simp⟩];rfl
theorem yae (k:Nat) (value:Int→Option Dg) (f:Nat→Dg) (hf:∀ j:Nat,j<35→value (j:Int)=some (f j)):∀ (n i m:Nat) (a:List Dg) (c:Nat),i+n=35→n<m→c≤i→zcz k value m (i:Int) a c=some (a++mapR f i n,c+n)
  |0,i,m+1,a,c,h1,h2,h3=>by
    rw [zcz,if_neg (by omega)]
    simp [mapR]
  |n+1,i,m+1,a,c,h1,h2,h3=>by
    rw [zcz,if_pos (by omega),hf i (by omega)];simp only [Option.bind_some];rw [if_pos (by omega),wi (by omega)];have:=yae k value f hf n (i+1) m (a++[f i]) (c+1) (by omega) (by omega) (by omega);rw [show ((i:Int)+1)=((i+1:Nat):Int) by omega,this];show some (a++[f i]++mapR f (i+1) n,_)=some (a++(f i :: mapR f (i+1) n),_);rw [List.append_assoc,show c+1+n=c+(n+1) by omega];rfl
def ztl (f:Nat→Dg):Dg:=ofD 1 [strL ([70]++catL (fun j=>(f j).l) 0 35)]
theorem zsh {f g:Nat→Dg} (h:∀ j,j<35→f j=g j):ztl f=ztl g:=by
  unfold ztl;rw [zvb (g:=fun j=>(g j).l) 35 0 fun j _ h2=>by show (f j).l=(g j).l;rw [h j (by omega)]]
theorem z0h (f:Nat→Dg):([70]++catL (fun j=>(f j).l) 0 35).length≤4000:=by
  rw [List.length_append,zq1 _ 16 35 0 fun j _ _=>(f j).h];simp
theorem yad (k:Nat) (value:Int→Option Dg) (f:Nat→Dg) (hf:∀ j:Nat,j<35→value (j:Int)=some (f j)):zie (k+50) value=some (ztl f):=by
  unfold zie;have:=yae (k+50) value f hf 35 0 (k+50) [] 0 (by omega) (by omega) (by omega);rw [show ((0:Nat):Int)=0 from rfl] at this;rw [this];simp only [Option.bind_some,List.nil_append];rw [if_pos (by rw [zep]),yih];simp only [Option.bind_some];rw [yjv _ _ (by rw [zcv];exact z0h f)];rfl
def lfF (seed:ByteArray) (i:Nat):Dg:=ztl fun j=>zdt i j 1 15 (zlc seed i j)
def zsk (level n:Nat) (a b:Dg):Dg:=ofD 2 [strL [4,2*(level:Int),2*(n:Int)],strL a.l,strL b.l]
theorem z1w (k:Nat) {level n:Nat} (h1:level<64) (h2:n<64) (a b:Dg):zg2 (k+10) (level:Int) (n:Int) a b=some (zsk level n a b):=by
  have e:=ydc (k+10) 2 (a:=strL [4,2*(level:Int),2*(n:Int)]) (b:=strL a.l) (c:=strL b.l) (by rw [zcv];simp) (zlw a) (zlw b);have e2:=ykf k h1 h2;have e3:∀ x:Dg,zeg (k+10) x=some (strL x.l):=fun x=>rfl;have e4:zsk level n a b=ofD 2 [strL [4,2*(level:Int),2*(n:Int)],strL a.l,strL b.l]:=rfl;rw [e4];generalize ofD 2 [strL [4,2*(level:Int),2*(n:Int)],strL a.l,strL b.l]=D at *;unfold zg2;rw [e2];simp only [Option.bind_some,e3,e]
def valF (seed:ByteArray):Nat→Nat→Dg
  |0,n=>lfF seed n
  |l+1,n=>zsk (l+1) n (valF seed l (2*n)) (valF seed l (2*n+1))
theorem yc3 (k:Nat) {seed:ByteArray} (hs:seed.size≤4000) {i j:Nat} (hi:i<64) (hj:j<64):zey (k+30) (j:Int) (i:Int) seed=some (zdt i j 1 15 (zlc seed i j)):=by
  unfold zey;rw [z2s (k+20) hs hi hj];simp only [Option.bind_some];have:=zxa k hi hj (fr:=0) (to':=15) (by omega) (by omega) (zlc seed i j);rw [show ((0:Nat):Int)=0 from rfl,show ((15:Nat):Int)=15 from rfl] at this;rw [this];rfl
theorem z7k (k:Nat) {seed:ByteArray} (hs:seed.size≤4000) (C:Nat) (hC:C≤64):∀ (n i m:Nat) (a:List Dg) (c:Nat),i+n=C→n<m→c≤i→zcy (k+100) seed (C:Int) m (i:Int) a c=some (a++mapR (lfF seed) i n,c+n)
  |0,i,m+1,a,c,h1,h2,h3=>by
    rw [zcy,if_neg (by omega)]
    simp [mapR]
  |n+1,i,m+1,a,c,h1,h2,h3=>by
    have e:=yad (k+50) (fun y=>zey (k+100) y (i:Int) seed) (fun j=>zdt i j 1 15 (zlc seed i j)) fun j hj=>yc3 (k+70) hs (by omega) (by omega);rw [zcy,if_pos (by omega),e];simp only [Option.bind_some];rw [if_pos (by omega),wi (by omega)];have:=z7k k hs C hC n (i+1) m (a++[lfF seed i]) (c+1) (by omega) (by omega) (by omega);rw [show ((i:Int)+1)=((i+1:Nat):Int) by omega,show ztl (fun j=>zdt i j 1 15 (zlc seed i j))=lfF seed i from rfl,this];show some (a++[lfF seed i]++mapR _ (i+1) n,_)=some (a++(lfF seed i :: mapR _ (i+1) n),_);rw [List.append_assoc,show c+1+n=c+(n+1) by omega];rfl
def levF (seed:ByteArray) (h l:Nat):List Dg:=mapR (valF seed l) 0 (2 ^ (h - l))
theorem yhb (k:Nat) (seed:ByteArray) (h l:Nat) (hh:h≤6) (hl:l<h) (l2:List (List Dg)) (hl2:l2.getD (l:Int).toNat default=levF seed h l):∀ (n i m:Nat) (a:List Dg) (c:Nat),i+n=2 ^ (h - (l+1))→n<m→c≤i→zcw (k+100) (l:Int) l2 m (i:Int) a c=some (a++mapR (valF seed (l+1)) i n,c+n):=by
  have hp:2 ^ (h - l)=2*2 ^ (h - (l+1)):=by rw [show h - l=(h - (l+1))+1 by omega,Nat.pow_succ];omega
  have hp6:=zf5 (show h - (l+1)≤6 by omega);have hlen:(levF seed h l).length=2 ^ (h - l):=zep _ _ _;intro n
  induction n with
  |zero =>
    intro i m a c h1 h2 h3
    cases m with
    |zero=>omega
    |succ m =>
      rw [zcw,hl2,hlen,wi (by omega),if_neg (by omega)]
      simp [mapR]
  |succ n ih =>
    intro i m a c h1 h2 h3
    cases m with
    |zero=>omega
    |succ m =>
      rw [zcw,hl2,hlen,wi (show _∧((2 ^ (h - l):Nat):Int) / 2≤_ by omega),if_pos (by omega),wi (show _∧2*(i:Int)≤_ by omega),wi (show _∧2*(i:Int)+1≤_ by omega),if_pos (by omega),if_pos (by omega),wi (show _∧(l:Int)+1≤_ by omega),wi (show _∧(i:Int)+1≤_ by omega)];have g1:=zje (valF seed l) (2 ^ (h - l)) 0 (2*i) (by omega);have g2:=zje (valF seed l) (2 ^ (h - l)) 0 (2*i+1) (by omega);rw [Nat.zero_add] at g1 g2;rw [show (2*(i:Int))=((2*i:Nat):Int) by omega,show (((2*i:Nat):Int)+1)=((2*i+1:Nat):Int) by omega];unfold levF;rw [g1,g2,show ((l:Int)+1)=((l+1:Nat):Int) by omega,z1w (k+90) (by omega) (by omega)];simp only [Option.bind_some];rw [if_pos (by omega)];have:=ih (i+1) m (a++[valF seed (l+1) i]) (c+1) (by omega) (by omega) (by omega);rw [show ((i:Int)+1)=((i+1:Nat):Int) by omega,show zsk (l+1) i (valF seed l (2*i)) (valF seed l (2*i+1))=valF seed (l+1) i from rfl,this];show some (a++[valF seed (l+1) i]++mapR _ (i+1) n,_)=some (a++(valF seed (l+1) i :: mapR _ (i+1) n),_);rw [List.append_assoc,show c+1+n=c+(n+1) by omega];rfl
theorem z7j (k:Nat) (seed:ByteArray) (h:Nat) (hh:h≤6):∀ (n l m:Nat),l+n=h→n<m→zcx (k+100) (h:Int) m (l:Int) (mapR (levF seed h) 0 (l+1)) (l+1)=some (mapR (levF seed h) 0 (h+1),h+1)
  |0,l,m+1,h1,h2=>by
    rw [zcx,if_neg (by omega)];have:l=h:=by omega
    rw [this]
  |n+1,l,m+1,h1,h2=>by
    have hlen:(mapR (levF seed h) 0 (l+1)).length=l+1:=zep _ _ _
    have hget:(mapR (levF seed h) 0 (l+1)).getD (l:Int).toNat default=levF seed h l:=by
      have:=zje (levF seed h) (l+1) 0 l (by omega);rw [Nat.zero_add] at this;exact this
    have hp6:=zf5 (show h - (l+1)≤6 by omega);have e:=yhb k seed h l hh (by omega) (mapR (levF seed h) 0 (l+1)) hget (2 ^ (h - (l+1))) 0 (k+100) [] 0 (by omega) (by omega) (by omega);rw [show ((0:Nat):Int)=0 from rfl] at e;rw [zcx,if_pos (by omega),if_pos (by omega),if_pos (by rw [hlen];omega),hget,if_pos (by omega),e];simp only [Option.bind_some,List.nil_append];rw [if_pos (by rw [zep];omega),if_pos (by omega)];simp only [Option.bind_some];rw [wi (by omega),show mapR (valF seed (l+1)) 0 (2 ^ (h - (l+1)))=levF seed h (l+1) from rfl];have s:=zy2 (levF seed h) (l+1) 0;rw [Nat.zero_add] at s;rw [← s];exact z7j k seed h hh n (l+1) m (by omega) (by omega)
theorem z7i (k:Nat) {seed:ByteArray} (hs:seed.size≤4000) {h:Nat} (hh:h≤6):zid (k+100) seed (h:Int)=some (mapR (levF seed h) 0 (h+1)):=by
  have hp:=zf5 hh;unfold zid;rw [zh8 _ h hh];simp only [Option.bind_some];have e:=z7k k hs (2 ^ h) hp.2 (2 ^ h) 0 (k+100) [] 0 (by omega) (by omega) (by omega);rw [show ((0:Nat):Int)=0 from rfl] at e;rw [e];simp only [Option.bind_some,List.nil_append];rw [if_pos (by rw [zep];omega)];have e1:=z7j k seed h hh h 0 (k+100) (by omega) (by omega)
  rw [show ((0:Nat):Int)=0 from rfl,show mapR (levF seed h) 0 (0+1)=[mapR (lfF seed) 0 (2 ^ h)] by
    show [levF seed h 0]=_;unfold levF;rw [Nat.sub_zero]
    rfl] at e1
  rw [show (1:Nat)=0+1 from rfl,e1];simp only [Option.bind_some];rw [if_pos (zep _ _ _)]
theorem yac (seed:ByteArray) (h:Nat):gx (mapR (levF seed h) 0 (h+1)) (h:Int)=[valF seed h 0]:=by
  have:=zje (levF seed h) (h+1) 0 h (by omega);rw [Nat.zero_add] at this;rw [this];unfold levF;rw [Nat.sub_self];rfl
theorem zyi (k:Nat) {seed:ByteArray} (hs:seed.size≤4000) {h:Nat} (hh:h≤6):zc2 (k+100) seed (h:Int)=some (valF seed h 0,0):=by
  have hp:=zf5 hh;unfold zc2;rw [zh8 _ h hh];simp only [Option.bind_some];rw [if_neg (by omega),z7i k hs hh];simp only [Option.bind_some];rw [if_pos (by rw [zep];omega),yac,if_pos (by simp)];rfl
theorem z9i (k:Nat) (seed:ByteArray) {h:Int} (hh:h<0∨6<h):zc2 k seed h=some (zA 16,1):=by
  unfold zc2;rw [z5a k hh];simp only [Option.bind_some,reduceIte]
def msgF (pub:Dg) (i:Nat) (m:ByteArray):Dg:=ofD 3 [strL pub.l,strL [2*(i:Int)],m]
theorem yfx (k:Nat) (pub:Dg) {i:Nat} (hi:i<64) {m:ByteArray} (hm:m.size≤4000):zc3 (k+1) pub (i:Int) m=some (msgF pub i m):=by
  unfold zc3 zeg;simp only [Option.bind_some];rw [ziy k hi];simp only [Option.bind_some];rw [ydc _ _ (zlw _) (by rw [zcv];simp) hm];rfl
end
section
open Go Go.RowKit
set_option maxRecDepth 100000
def zc1 (k:Nat) (seed:ByteArray) (index:Int) (rDigits:Ar 35):Nat→Int→(List Int)→Nat→Option (List Int×Nat)
 |0,_,_,_=>none
 |m+1,i,l,n=>(if i<35 then (if (0:Int)≤i∧i<(35:Int) then ((zg1 k seed index i).bind fun rstart=>((zf3 k index i rstart 0 (gx rDigits.l i)).bind fun rclimb=>(if (n+16)*2≤1000000000 then zc1 k seed index rDigits m (IntKind.i64.wrap (i+1)) (l++rclimb.l) (n+16) else none))) else none) else some (l,n))
def zc0 (k:Nat) (height:Int) (index:Int) (rtree:List (List (Ar 16))):Nat→Int→(List Int)→Nat→Option (List Int×Nat)
 |0,_,_,_=>none
 |m+1,i2,l2,n2=>(if i2<height then (if (0:Int)≤i2∧i2<(rtree.length:Int) then (if (0:Int)≤i2 then (if (0:Int)≤(IntKind.i64.wrap (((BitVec.ofInt IntKind.i64.bits (index.fdiv (2 ^ (min i2.toNat IntKind.i64.bits))) ^^^ BitVec.ofInt IntKind.i64.bits 1).toNat:Int)))∧(IntKind.i64.wrap (((BitVec.ofInt IntKind.i64.bits (index.fdiv (2 ^ (min i2.toNat IntKind.i64.bits))) ^^^ BitVec.ofInt IntKind.i64.bits 1).toNat:Int)))<((gx rtree i2).length:Int) then (if (n2+16)*2≤1000000000 then zc0 k height index rtree m (IntKind.i64.wrap (i2+1)) (l2++(gx (gx rtree i2) (IntKind.i64.wrap (((BitVec.ofInt IntKind.i64.bits (index.fdiv (2 ^ (min i2.toNat IntKind.i64.bits))) ^^^ BitVec.ofInt IntKind.i64.bits 1).toNat:Int)))).l) (n2+16) else none) else none) else none) else none) else some (l2,n2))
def zfe (k:Nat) (seed:ByteArray) (height:Int) (index:Int) (message:ByteArray):Option (ByteArray×Int):=((zbm k height).bind fun rCount=>(if rCount=0 then some ((⟨#[]⟩:ByteArray),1) else (((if index<0 then some true else ((zbm k height).bind fun rCount2=>some (decide (rCount2≤index)))):Option Bool).bind fun s_=>(if s_=true then some ((⟨#[]⟩:ByteArray),14) else ((zid k seed height).bind fun rtree=>((zf2 k index).bind fun rb=>(if (0:Int)≤height∧height<(rtree.length:Int) then (if (0:Int)≤0∧0<((gx rtree height).length:Int) then ((zc3 k (gx (gx rtree height) 0) index message).bind fun rMessage=>((zdv k rMessage).bind fun rDigits=>((zc1 k seed index rDigits k 0 rb.1 rb.2:Option (List Int×Nat)).bind fun s_2=>((zc0 k height index rtree k 0 s_2.1 s_2.2:Option (List Int×Nat)).bind fun s_3=>(if s_3.1.length=s_3.2 then some (strL s_3.1,0) else none))))) else none) else none)))))))
set_option maxHeartbeats 8000000 in
theorem zki (ax:Axs) (hx:Pl ax) (k:Nat) (seed:ByteArray) (height:Int) (index:Int) (message:ByteArray) (v:ByteArray×Int) (H:zfe k seed height index message=some v):Pure Tryd.prog (EE ax) GLs 18 [.str seed,.int .i64 height,.int .i64 index,.str message] (tupT [.str v.1,.int .i64 v.2]):=by
 rw [zfe] at H;refine enN [.tmp 8,.tmp 9] 81 [0,1,2,3] (hx.no _ (by decide)) (fn18 ax) ?_;intro h hh;repeat apply TW.seq
 refine rk [0,1,2,3] [] hh ?_;clear hh h;intro h hh;repeat apply TW.seq
 apply TW.block;obtain ⟨rCount,e1,H⟩:=zal H;repeat apply TW.seq
 refine rkc [0,1,2,3,17] [] [(.int .i64 rCount,stL [])] hh ?_ ?_
 ·exact ⟨za1.call ((zb1 ax hx k height rCount e1 ).call _),trivial⟩
 clear hh h;intro h hh;rcases isp H with ⟨c2,H⟩|⟨c2,H⟩;rotate_left
 ·skip;repeat apply TW.seq
  refine cf (f2 hh (decide_eq_false c2)) ?_;obtain ⟨s_,H1,H⟩:=zal H;repeat apply TW.seq
  refine cu [0,1,2,3,21] 0 (fun h bs=>(h 0=.str seed∧h 1=.int .i64 height∧h 2=.int .i64 index∧h 3=.str message∧h 21=.bool s_)∧bs=[]) ?_ ?_
  ·skip;rcases isp H1 with ⟨c3,H1⟩|⟨c3,H1⟩;rotate_left
   ·skip;obtain ⟨rCount2,e4,H1⟩:=zal H1;repeat apply TW.seq
    refine rkc [0,1,2,3,21] [] [(.int .i64 rCount2,stL [])] (f2 hh (decide_eq_false c3)) ?_ ?_
    ·exact ⟨za1.call ((zb1 ax hx k height rCount2 e4 ).call _),trivial⟩
    clear hh h;intro h hh;cases H1;exact ce hh ⟨kq hh,rfl⟩
   repeat apply TW.seq
   refine rk [0,1,2,3,21] [] (f2 hh (decide_eq_true c3)) ?_;clear hh h;intro h hh;cases H1;exact ce hh ⟨kq hh,rfl⟩
  clear hh h;rintro h bs ⟨hh,rfl⟩;rcases isb H with ⟨c5,H⟩|⟨c5,H⟩;rotate_left
  ·skip;repeat apply TW.seq
   refine cf (f2 hh c5) ?_;repeat apply TW.seq
   refine sk ?_;obtain ⟨rtree,e6,H⟩:=zal H;repeat apply TW.seq
   refine rkc [0,1,2,3,10] [] [(zs0 rtree,stL [])] (f2 hh c5) ?_ ?_
   ·exact ⟨za1.call (Pure.clr (znk ax hx k seed height rtree e6 ) (by first|rfl|simp only [c5])),trivial⟩
   clear hh h;intro h hh;obtain ⟨rb,e7,H⟩:=zal H;repeat apply TW.seq
   refine rkc [0,1,2,3,10,11] [] [(.arr 0 1 0 rb.2 rb.2 rb.2,stL [.cells false rb.2 (rb.1.map (T.int .u8))])] (f2 hh c5) ?_ ?_
   ·exact ⟨car [0] (zjl ax hx k index rb e7),trivial⟩
   clear hh h;intro h hh;obtain ⟨g8,H⟩:=isg H;obtain ⟨g9,H⟩:=isg H;obtain ⟨rMessage,e10,H⟩:=zal H;obtain ⟨rDigits,e11,H⟩:=zal H;repeat apply TW.seq
   refine rkc [0,1,2,10,11,44,45] [] [(.agg (rMessage.l.map (T.int .u8)),stL [.cells false rb.2 (rb.1.map (T.int .u8))]),(.agg (rDigits.l.map (T.int .i64)),stL [.cells false rb.2 (rb.1.map (T.int .u8))])] (f3 hh c5 (f2 (zgu g8) (zgu g9))) ?_ ?_
   ·exact ⟨za1.call (Pure.clr (zkz ax hx k (gx (gx rtree height) 0) index message rMessage e10 ) (by first|rfl|simp only [c5])),za1.call (Pure.clr (zgo ax hx k rMessage rDigits e11 ) (by first|rfl|simp only [c5])),trivial⟩
   clear hh h;intro h hh;obtain ⟨s_2,H1,H⟩:=zal H;repeat apply TW.seq
   refine cu [1,2,10,11] 1 (fun h bs=>(h 1=.int .i64 height∧h 2=.int .i64 index∧h 10=zs0 rtree∧h 11=.arr 0 1 0 s_2.2 s_2.2 s_2.2)∧bs=[.cells false s_2.2 (s_2.1.map (T.int .u8))]) ?_ ?_
   ·skip;repeat apply TW.seq
    apply TW.block;repeat apply TW.seq
    refine TW.loopT [0,1,2,10,11,44,45] (fun m h bs=>∃ (i:Int) (l:List Int) (n:Nat),zc1 k seed index rDigits m i l n=some s_2∧(h 0=.str seed∧h 1=.int .i64 height∧h 2=.int .i64 index∧h 10=zs0 rtree∧h 11=.arr 0 1 0 n n n∧h 44=.agg (rDigits.l.map (T.int .i64))∧h 45=.int .i64 i)∧bs=[.cells false n (l.map (T.int .u8))]) ?_ k _ _ ?_;rotate_left
    ·exact ⟨0,rb.1,rb.2,H1,kq hh,rfl⟩
    clear hh h H1;rintro m h bs ⟨i,l,n,H1,hh,rfl⟩;rcases m with _|m
    ·rw [zc1] at H1;cases H1
    rw [zc1] at H1;repeat apply TW.seq
    refine rk [0,1,2,10,11,44,45,46] [] (f2 hh c5) ?_;clear hh h;intro h hh;rcases isp H1 with ⟨c12,H1⟩|⟨c12,H1⟩;rotate_left
    ·skip;repeat apply TW.seq
     refine cf (f2 hh (decide_eq_false c12)) ?_;refine xk ?_;cases H1;exact ce hh ⟨kq hh,rfl⟩
    repeat apply TW.seq
    refine ct (f2 hh (decide_eq_true c12)) ?_;repeat apply TW.seq
    refine sk ?_;repeat apply TW.seq
    apply TW.block;obtain ⟨g13,H1⟩:=isg H1;repeat apply TW.seq
    refine rk [0,1,2,10,11,12,13,44,45] [] (f3 hh c5 (arIx rDigits g13)) ?_;clear hh h;intro h hh;obtain ⟨rstart,e14,H1⟩:=zal H1;obtain ⟨rclimb,e15,H1⟩:=zal H1;repeat apply TW.seq
    refine rkc [0,1,2,10,11,14,44,45] [] [(.agg (rstart.l.map (T.int .u8)),stL [.cells false n (l.map (T.int .u8))]),(.agg (rclimb.l.map (T.int .u8)),stL [.cells false n (l.map (T.int .u8))])] (f2 hh c5) ?_ ?_
    ·exact ⟨za1.call (Pure.clr (zmv ax hx k seed index i rstart e14 ) (by first|rfl|simp only [c5])),za1.call (Pure.clr (zjm ax hx k index i rstart 0 (gx rDigits.l i) rclimb e15 ) (by first|rfl|simp only [c5])),trivial⟩
    clear hh h;intro h hh;obtain ⟨g16,H1⟩:=isg H1;repeat apply TW.seq
    refine rg [] [] [.cells false (n+16) ((l++rclimb.l).map (T.int .u8)),.cells true 16 (rclimb.l.map (T.int .u8))] (fun h=>h 0=.str seed∧h 1=.int .i64 height∧h 2=.int .i64 index∧h 10=zs0 rtree∧h 11=.arr 0 1 0 (n+16) (n+16) (n+16)∧h 44=.agg (rDigits.l.map (T.int .i64))∧h 45=.int .i64 i) (f2 hh c5) trivial ?_;clear hh h;intro h hh;repeat apply TW.seq
    refine rk [0,1,2,10,11,44,45] [] (f2 hh c5) ?_;clear hh h;intro h hh;exact rd m hh ⟨(IntKind.i64.wrap (i+1)),(l++rclimb.l),(n+16),H1,kq hh,rfl⟩
   clear hh h;rintro h bs ⟨hh,rfl⟩;repeat apply TW.seq
   refine rk [2,10,11,61,62] [] (f2 hh c5) ?_;clear hh h;intro h hh;obtain ⟨s_3,H1,H⟩:=zal H;repeat apply TW.seq
   refine cu [11] 1 (fun h bs=>(h 11=.arr 0 1 0 s_3.2 s_3.2 s_3.2)∧bs=[.cells false s_3.2 (s_3.1.map (T.int .u8))]) ?_ ?_
   ·skip;repeat apply TW.seq
    apply TW.block;repeat apply TW.seq
    refine TW.loopT [2,10,11,61,62] (fun m h bs=>∃ (i2:Int) (l2:List Int) (n2:Nat),zc0 k height index rtree m i2 l2 n2=some s_3∧(h 2=.int .i64 index∧h 10=zs0 rtree∧h 11=.arr 0 1 0 n2 n2 n2∧h 61=.int .i64 height∧h 62=.int .i64 i2)∧bs=[.cells false n2 (l2.map (T.int .u8))]) ?_ k _ _ ?_;rotate_left
    ·exact ⟨0,s_2.1,s_2.2,H1,kq hh,rfl⟩
    clear hh h H1;rintro m h bs ⟨i2,l2,n2,H1,hh,rfl⟩;rcases m with _|m
    ·rw [zc0] at H1;cases H1
    rw [zc0] at H1;repeat apply TW.seq
    refine rk [2,10,11,61,62,63] [] (f2 hh c5) ?_;clear hh h;intro h hh;rcases isp H1 with ⟨c17,H1⟩|⟨c17,H1⟩;rotate_left
    ·skip;repeat apply TW.seq
     refine cf (f2 hh (decide_eq_false c17)) ?_;refine xk ?_;cases H1;exact ce hh ⟨kq hh,rfl⟩
    repeat apply TW.seq
    refine ct (f2 hh (decide_eq_true c17)) ?_;repeat apply TW.seq
    refine sk ?_;repeat apply TW.seq
    apply TW.block;repeat apply TW.seq
    refine rk [2,10,11,15,61,62] [] (f2 hh c5) ?_;clear hh h;intro h hh;obtain ⟨g18,H1⟩:=isg H1;obtain ⟨g19,H1⟩:=isg H1;obtain ⟨g20,H1⟩:=isg H1;repeat apply TW.seq
    refine dk 0 [2,10,11,16,61,62] [] [] [] (f3 hh c5 (f2 (zgu g18) (zgu g20))) trivial trivial ?_;clear hh h;intro h hh;obtain ⟨g21,H1⟩:=isg H1;repeat apply TW.seq
    refine rg [] [] [.cells false (n2+16) ((l2++(gx (gx rtree i2) (IntKind.i64.wrap (((BitVec.ofInt IntKind.i64.bits (index.fdiv (2 ^ (min i2.toNat IntKind.i64.bits))) ^^^ BitVec.ofInt IntKind.i64.bits 1).toNat:Int)))).l).map (T.int .u8)),.cells true 16 ((gx (gx rtree i2) (IntKind.i64.wrap (((BitVec.ofInt IntKind.i64.bits (index.fdiv (2 ^ (min i2.toNat IntKind.i64.bits))) ^^^ BitVec.ofInt IntKind.i64.bits 1).toNat:Int)))).l.map (T.int .u8))] (fun h=>h 2=.int .i64 index∧h 10=zs0 rtree∧h 11=.arr 0 1 0 (n2+16) (n2+16) (n2+16)∧h 61=.int .i64 height∧h 62=.int .i64 i2) (f2 hh c5) trivial ?_;clear hh h;intro h hh;repeat apply TW.seq
    refine rk [2,10,11,61,62] [] (f2 hh c5) ?_;clear hh h;intro h hh;exact rd m hh ⟨(IntKind.i64.wrap (i2+1)),(l2++(gx (gx rtree i2) (IntKind.i64.wrap (((BitVec.ofInt IntKind.i64.bits (index.fdiv (2 ^ (min i2.toNat IntKind.i64.bits))) ^^^ BitVec.ofInt IntKind.i64.bits 1).toNat:Int)))).l),(n2+16),H1,kq hh,rfl⟩
   clear hh h;rintro h bs ⟨hh,rfl⟩;obtain ⟨g22,H⟩:=isg H;repeat apply TW.seq
   refine rk [8,9] [] (f3 hh c5 (f3 (@tStr.eq_1) (isu8 ax) (f2 (@tSrc.eq_4) (zre (k:=.u8) g22)))) ?_;clear hh h;intro h hh;cases H;exact rt hh
  repeat apply TW.seq
  refine ct (f2 hh c5) ?_;repeat apply TW.seq
  refine rk [8,9] [] (f2 hh c5) ?_;clear hh h;intro h hh;cases H;exact rt hh
 repeat apply TW.seq
 refine ct (f2 hh (decide_eq_true c2)) ?_;repeat apply TW.seq
 refine rk [8,9] [] hh ?_;clear hh h;intro h hh;cases H;exact rt hh
def zbi (k:Nat) (k_:Int) (fv:ByteArray) (fv2:Int):Option (Ar 16):=(if (0:Int)≤(IntKind.i64.wrap (fv2+(IntKind.i64.wrap (k_*16))))∧(IntKind.i64.wrap (fv2+(IntKind.i64.wrap (k_*16))))≤(fv.size:Int) then ((zhj k (fv.extract (IntKind.i64.wrap (fv2+(IntKind.i64.wrap (k_*16)))).toNat fv.size)).bind fun rdigest=>some rdigest) else none)
set_option maxHeartbeats 8000000 in
theorem zdl (ax:Axs) (hx:Pl ax) (k:Nat) (k_:Int) (fv:ByteArray) (fv2:Int) (v:Ar 16) (H:zbi k k_ fv fv2=some v):Pure Tryd.prog (EE ax) GLs 38 [.int .i64 k_,.cp [.str fv],.cp [.int .i64 fv2]] (.agg (v.l.map (T.int .u8))):=by
 rw [zbi] at H;refine en [.cell 4 23] 12 [0,1,2] (hx.no _ (by decide)) (fn38 ax) ?_;intro h hh;repeat apply TW.seq
 refine rk [0,1,2,4] [] hh ?_;clear hh h;intro h hh;obtain ⟨g1,H⟩:=isg H;obtain ⟨rdigest,e2,H⟩:=zal H;repeat apply TW.seq
 refine rkc [4] [] [(.agg (rdigest.l.map (T.int .u8)),stL [.cells true 16 ((zA 16).l.map (T.int .u8))])] (f2 hh (ztc g1)) ?_ ?_
 ·exact ⟨za1.call ((zle ax hx k (fv.extract (IntKind.i64.wrap (fv2+(IntKind.i64.wrap (k_*16)))).toNat fv.size) rdigest e2 ).call _),trivial⟩
 clear hh h;intro h hh;cases H;exact rtc hh
def zeh (k:Nat) (j:Int) (fv:Int) (fv2:Int→Option (Ar 16)) (fv3:Ar 35):Option (Ar 16):=((fv2 j).bind fun r=>(if (0:Int)≤j∧j<(35:Int) then ((zf3 k fv j r (gx fv3.l j) 15).bind fun rclimb=>some rclimb) else none))
set_option maxHeartbeats 8000000 in
theorem zjv (ax:Axs) (hx:Pl ax) (k:Nat) (j:Int) (fv:Int) (fv2:Int→Option (Ar 16)) (fv3:Ar 35) (v:Ar 16) (H:zeh k j fv fv2 fv3=some v) (fv2_f:Nat) (fv2_c:List T) (fv2_i:T.idsL 0 fv2_c=true) (fv2_h:∀ (y0:Int) (w:Ar 16),fv2 y0=some w→Pure Tryd.prog (EE ax) GLs fv2_f ([]++[.int .i64 y0]++fv2_c) (.agg (w.l.map (T.int .u8)))):Pure Tryd.prog (EE ax) GLs 41 [.int .i64 j,.cp [.int .i64 fv],.cp [.fn fv2_f [] fv2_c],.cp (fv3.l.map (T.int .i64))] (.agg (v.l.map (T.int .u8))):=by
 rw [zeh] at H;refine en (ha:=by simp only [zbt,zbs,idsA,idsB,fv2_i,Bool.and_self]) [.cell 5 23] 15 [0,1,2,3] (hx.no _ (by decide)) (fn41 ax) ?_;intro h hh;repeat apply TW.seq
 refine rk [0,1,2,3,5] [] hh ?_;clear hh h;intro h hh;obtain ⟨r,e1,H⟩:=zal H;obtain ⟨g2,H⟩:=isg H;obtain ⟨rclimb,e3,H⟩:=zal H;repeat apply TW.seq
 refine dk 8 [5] [.agg (r.l.map (T.int .u8))] [] [(.agg (rclimb.l.map (T.int .u8)),stL [.cells true 16 ((zA 16).l.map (T.int .u8))])] (f3 hh ag60 (f2 (arCp (k:=.i64) fv3 g2) (ti60 ax))) ?_ ?_ ?_
 ·exact ⟨(fv2_h j r e1).call _,trivial⟩
 ·exact ⟨za1.call ((zjm ax hx k fv j r (gx fv3.l j) 15 rclimb e3 ).call _),trivial⟩
 clear hh h;intro h hh;cases H;exact rtc hh
def zbk (k:Nat) (height:Int) (signature:ByteArray) (rGetInt:Int×Int×Int):Nat→Int→(Ar 16)→Option (Ar 16)
 |0,_,_=>none
 |m+1,i,x=>(if i<height then ((zbi k (IntKind.i64.wrap (35+i)) signature rGetInt.2.1).bind fun r1=>(if (0:Int)≤i then (if (IntKind.i64.wrap (((BitVec.ofInt IntKind.i64.bits (rGetInt.1.fdiv (2 ^ (min i.toNat IntKind.i64.bits))) &&& BitVec.ofInt IntKind.i64.bits 1).toNat:Int)))=1 then (if (0:Int)≤(IntKind.i64.wrap (i+1)) then ((zg2 k (IntKind.i64.wrap (i+1)) (rGetInt.1.fdiv (2 ^ (min (IntKind.i64.wrap (i+1)).toNat IntKind.i64.bits))) r1 x).bind fun rjoin=>zbk k height signature rGetInt m (IntKind.i64.wrap (i+1)) rjoin) else none) else (if (0:Int)≤(IntKind.i64.wrap (i+1)) then ((zg2 k (IntKind.i64.wrap (i+1)) (rGetInt.1.fdiv (2 ^ (min (IntKind.i64.wrap (i+1)).toNat IntKind.i64.bits))) x r1).bind fun rjoin2=>zbk k height signature rGetInt m (IntKind.i64.wrap (i+1)) rjoin2) else none)) else none)) else some x)
def zbf (k:Nat) (public_:Ar 16) (height:Int) (message:ByteArray) (signature:ByteArray):Option (Int×Int):=((zbm k height).bind fun rCount=>(if rCount=0 then some (0,1) else (if signature.size≤1000000000 then ((zex k (bytL signature)).bind fun rGetInt=>((zg3 k height rGetInt.1).bind fun rSize=>(if rGetInt.2.2≠0 then some (0,rGetInt.2.2) else (if rSize=0 then some (0,8) else (if (signature.size:Int)<rSize then some (0,5) else (if rSize<(signature.size:Int) then some (0,6) else ((zc3 k public_ rGetInt.1 message).bind fun rMessage=>((zdv k rMessage).bind fun rDigits=>((zie k (fun y=>zeh k y rGetInt.1 (fun y2=>zbi k y2 signature rGetInt.2.1) rDigits)).bind fun rleaf=>((zbk k height signature rGetInt k 0 rleaf:Option (Ar 16)).bind fun s_=>(if s_=public_ then some (rGetInt.1,0) else some (0,8)))))))))))) else none)))
set_option maxHeartbeats 8000000 in
theorem zez (ax:Axs) (hx:Pl ax) (k:Nat) (public_:Ar 16) (height:Int) (message:ByteArray) (signature:ByteArray) (v:Int×Int) (H:zbf k public_ height message signature=some v):Pure Tryd.prog (EE ax) GLs 22 [.agg (public_.l.map (T.int .u8)),.int .i64 height,.str message,.str signature] (tupT [.int .i64 v.1,.int .i64 v.2]):=by
 rw [zbf] at H;refine enN [.tmp 8,.tmp 9] 93 [0,1,2,3] (hx.no _ (by decide)) (fn22 ax) ?_;intro h hh;repeat apply TW.seq
 refine rk [1,2,4,7] [] hh ?_;clear hh h;intro h hh;refine zk 7 1 1 true [.str signature] [1,2,4,7] hh ?_;clear hh h;intro h hh;obtain ⟨rCount,e1,H⟩:=zal H;repeat apply TW.seq
 refine rkc [1,2,4,7,21] [] [(.int .i64 rCount,stL [.cells true 16 (public_.l.map (T.int .u8)),.gone])] hh ?_ ?_
 ·exact ⟨za1.call ((zb1 ax hx k height rCount e1 ).call _),trivial⟩
 clear hh h;intro h hh;rcases isp H with ⟨c2,H⟩|⟨c2,H⟩;rotate_left
 ·skip;repeat apply TW.seq
  refine cf (f2 hh (decide_eq_false c2)) ?_;repeat apply TW.seq
  refine sk ?_;obtain ⟨g3,H⟩:=isg H;obtain ⟨rGetInt,e4,H⟩:=zal H;repeat apply TW.seq
  refine rkc [1,2,4,7,10,11,12] [] [(.tup [.int .i64 rGetInt.1,.int .i64 rGetInt.2.1,.int .i64 rGetInt.2.2],stL [.cells true 16 (public_.l.map (T.int .u8)),.gone])] (f3 hh (isu8 ax) (zhg signature)) ?_ ?_
  ·exact ⟨za1.call ((zri ax hx k (bytL signature) rGetInt e4 ).call _),trivial⟩
  clear hh h;intro h hh;refine zk 10 2 1 true [.int .i64 rGetInt.1] [1,2,4,7,10,11,12] hh ?_;clear hh h;intro h hh;refine zk 11 3 1 true [.int .i64 rGetInt.2.1] [1,2,4,7,10,11,12] hh ?_;clear hh h;intro h hh;obtain ⟨rSize,e5,H⟩:=zal H;repeat apply TW.seq
  refine rkc [1,2,4,7,10,11,12,13] [] [(.int .i64 rSize,stL [.cells true 16 (public_.l.map (T.int .u8)),.gone,.gone,.gone])] hh ?_ ?_
  ·exact ⟨za1.call ((zh3 ax hx k height rGetInt.1 rSize e5 ).call _),trivial⟩
  clear hh h;intro h hh;repeat apply TW.seq
  apply TW.block;repeat apply TW.seq
  refine rk [1,2,4,7,10,11,12,13,32] [] hh ?_;clear hh h;intro h hh;rcases isp H with ⟨c6,H⟩|⟨c6,H⟩;rotate_left
  ·skip;repeat apply TW.seq
   refine cf (f2 hh (decide_eq_false c6)) ?_;repeat apply TW.seq
   refine rk [1,2,4,7,10,11,13,36] [] hh ?_;clear hh h;intro h hh;rcases isp H with ⟨c7,H⟩|⟨c7,H⟩;rotate_left
   ·skip;repeat apply TW.seq
    refine cf (f2 hh (decide_eq_false c7)) ?_;repeat apply TW.seq
    refine rk [1,2,4,7,10,11,13,39] [] hh ?_;clear hh h;intro h hh;rcases isp H with ⟨c8,H⟩|⟨c8,H⟩;rotate_left
    ·skip;repeat apply TW.seq
     refine cf (f2 hh (decide_eq_false c8)) ?_;repeat apply TW.seq
     refine rk [1,2,4,7,10,11,44] [] hh ?_;clear hh h;intro h hh;rcases isp H with ⟨c9,H⟩|⟨c9,H⟩;rotate_left
     ·skip;repeat apply TW.seq
      refine cf (f2 hh (decide_eq_false c9)) ?_;repeat apply TW.seq
      refine sk ?_;repeat apply TW.seq
      refine rk [1,2,4,10,14] [] (f3 hh ag60 (ti60 ax)) ?_;clear hh h;intro h hh;refine zk 14 4 1 true [.fn 38 [] [.cp [.str signature],.cp [.int .i64 rGetInt.2.1]]] [1,2,4,10,14] hh ?_;clear hh h;intro h hh;obtain ⟨rMessage,e10,H⟩:=zal H;obtain ⟨rDigits,e11,H⟩:=zal H;repeat apply TW.seq
      refine rkc [1,4,10,14,15] [] [(.agg (rMessage.l.map (T.int .u8)),stL [.cells true 16 (public_.l.map (T.int .u8)),.gone,.gone,.gone,.gone]),(.agg (rDigits.l.map (T.int .i64)),stL [.cells true 16 (public_.l.map (T.int .u8)),.gone,.gone,.gone,.gone])] hh ?_ ?_
      ·exact ⟨za1.call ((zkz ax hx k public_ rGetInt.1 message rMessage e10 ).call _),za1.call ((zgo ax hx k rMessage rDigits e11 ).call _),trivial⟩
      clear hh h;intro h hh;refine zk 15 5 35 true (rDigits.l.map (T.int .i64)) [1,4,10,14,15] hh ?_;clear hh h;intro h hh;obtain ⟨rleaf,e12,H⟩:=zal H;repeat apply TW.seq
      refine rkc [1,4,10,14,16] [] [(.agg (rleaf.l.map (T.int .u8)),stL [.cells true 16 (public_.l.map (T.int .u8)),.gone,.gone,.gone,.gone,.gone])] hh ?_ ?_
      ·exact ⟨za1.call ((znl ax hx k (fun y=>zeh k y rGetInt.1 (fun y2=>zbi k y2 signature rGetInt.2.1) rDigits) rleaf e12 41 [.cp [.int .i64 rGetInt.1],.cp [.fn 38 [] [.cp [.str signature],.cp [.int .i64 rGetInt.2.1]]],.cp (rDigits.l.map (T.int .i64))] (by simp only [zbt,zbs,idsA,idsB,Bool.and_self]) (fun y w hw=>by first|exact zjv ax hx k y rGetInt.1 (fun y2=>zbi k y2 signature rGetInt.2.1) rDigits w hw 38 [.cp [.str signature],.cp [.int .i64 rGetInt.2.1]] (by simp only [zbt,zbs,idsA,idsB,Bool.and_self]) (fun y2 w hw=>by first|exact zdl ax hx k y2 signature rGetInt.2.1 w hw|exact (zdl ax hx k y2 signature rGetInt.2.1 w hw))|exact (zjv ax hx k y rGetInt.1 (fun y2=>zbi k y2 signature rGetInt.2.1) rDigits w hw 38 [.cp [.str signature],.cp [.int .i64 rGetInt.2.1]] (by simp only [zbt,zbs,idsA,idsB,Bool.and_self]) (fun y2 w hw=>by first|exact zdl ax hx k y2 signature rGetInt.2.1 w hw|exact (zdl ax hx k y2 signature rGetInt.2.1 w hw))))).call _),trivial⟩
      clear hh h;intro h hh;repeat apply TW.seq
      refine rk [4,10,14,16,57,58] [] hh ?_;clear hh h;intro h hh;obtain ⟨s_,H1,H⟩:=zal H;repeat apply TW.seq
      refine cu [4,10,16] 7 (fun h bs=>(h 4=.ptr 0 0 16∧h 10=.cp [.int .i64 rGetInt.1]∧h 16=.ptr 6 0 16)∧bs=[.cells true 16 (public_.l.map (T.int .u8)),.gone,.gone,.gone,.gone,.gone,.cells true 16 (s_.l.map (T.int .u8))]) ?_ ?_
      ·skip;repeat apply TW.seq
       apply TW.block;repeat apply TW.seq
       refine TW.loopT [4,10,14,16,57,58] (fun m h bs=>∃ (i:Int) (x:Ar 16),zbk k height signature rGetInt m i x=some s_∧(h 4=.ptr 0 0 16∧h 10=.cp [.int .i64 rGetInt.1]∧h 14=.cp [.fn 38 [] [.cp [.str signature],.cp [.int .i64 rGetInt.2.1]]]∧h 16=.ptr 6 0 16∧h 57=.int .i64 height∧h 58=.int .i64 i)∧bs=[.cells true 16 (public_.l.map (T.int .u8)),.gone,.gone,.gone,.gone,.gone,.cells true 16 (x.l.map (T.int .u8))]) ?_ k _ _ ?_;rotate_left
       ·exact ⟨0,rleaf,H1,kq hh,rfl⟩
       clear hh h H1;rintro m h bs ⟨i,x,H1,hh,rfl⟩;rcases m with _|m
       ·rw [zbk] at H1;cases H1
       rw [zbk] at H1;repeat apply TW.seq
       refine rk [4,10,14,16,57,58,59] [] hh ?_;clear hh h;intro h hh;rcases isp H1 with ⟨c13,H1⟩|⟨c13,H1⟩;rotate_left
       ·skip;repeat apply TW.seq
        refine cf (f2 hh (decide_eq_false c13)) ?_;refine xk ?_;cases H1;exact ce hh ⟨kq hh,rfl⟩
       repeat apply TW.seq
       refine ct (f2 hh (decide_eq_true c13)) ?_;repeat apply TW.seq
       refine sk ?_;repeat apply TW.seq
       apply TW.block;repeat apply TW.seq
       refine rk [4,10,14,16,17,57,58] [] hh ?_;clear hh h;intro h hh;obtain ⟨r1,e14,H1⟩:=zal H1;repeat apply TW.seq
       refine rkc [4,10,14,16,17,18,57,58] [] [(.agg (r1.l.map (T.int .u8)),stL [.cells true 16 (public_.l.map (T.int .u8)),.gone,.gone,.gone,.gone,.gone,.cells true 16 (x.l.map (T.int .u8))])] (f3 hh ag60 (ti60 ax)) ?_ ?_
       ·exact ⟨za1.call ((zdl ax hx k (IntKind.i64.wrap (35+i)) signature rGetInt.2.1 r1 e14 ).call _),trivial⟩
       clear hh h;intro h hh;obtain ⟨g15,H1⟩:=isg H1;repeat apply TW.seq
       refine rk [4,10,14,16,17,18,57,58,69] [] hh ?_;clear hh h;intro h hh;rcases isp H1 with ⟨c16,H1⟩|⟨c16,H1⟩;rotate_left
       ·skip;repeat apply TW.seq
        refine cf (f2 hh (decide_eq_false c16)) ?_;obtain ⟨g19,H1⟩:=isg H1;obtain ⟨rjoin2,e20,H1⟩:=zal H1;repeat apply TW.seq
        refine dk 8 [4,10,14,16,57,58] [] [] [(.agg (rjoin2.l.map (T.int .u8)),stL [.cells true 16 (public_.l.map (T.int .u8)),.gone,.gone,.gone,.gone,.gone,.cells true 16 (x.l.map (T.int .u8)),.cells true 16 (r1.l.map (T.int .u8))])] hh trivial ?_ ?_
        ·exact ⟨za1.call ((zkh ax hx k (IntKind.i64.wrap (i+1)) (rGetInt.1.fdiv (2 ^ (min (IntKind.i64.wrap (i+1)).toNat IntKind.i64.bits))) x r1 rjoin2 e20 ).call _),trivial⟩
        clear hh h;intro h hh;repeat apply TW.seq
        refine rk [4,10,14,16,57,58] [] hh ?_;clear hh h;intro h hh;exact rd m hh ⟨(IntKind.i64.wrap (i+1)),rjoin2,H1,kq hh,rfl⟩
       repeat apply TW.seq
       refine ct (f2 hh (decide_eq_true c16)) ?_;obtain ⟨g17,H1⟩:=isg H1;obtain ⟨rjoin,e18,H1⟩:=zal H1;repeat apply TW.seq
       refine dk 8 [4,10,14,16,57,58] [] [] [(.agg (rjoin.l.map (T.int .u8)),stL [.cells true 16 (public_.l.map (T.int .u8)),.gone,.gone,.gone,.gone,.gone,.cells true 16 (x.l.map (T.int .u8)),.cells true 16 (r1.l.map (T.int .u8))])] hh trivial ?_ ?_
       ·exact ⟨za1.call ((zkh ax hx k (IntKind.i64.wrap (i+1)) (rGetInt.1.fdiv (2 ^ (min (IntKind.i64.wrap (i+1)).toNat IntKind.i64.bits))) r1 x rjoin e18 ).call _),trivial⟩
       clear hh h;intro h hh;repeat apply TW.seq
       refine rk [4,10,14,16,57,58] [] hh ?_;clear hh h;intro h hh;exact rd m hh ⟨(IntKind.i64.wrap (i+1)),rjoin,H1,kq hh,rfl⟩
      clear hh h;rintro h bs ⟨hh,rfl⟩;repeat apply TW.seq
      refine rk [10,91] [] (f2 hh ((aq23 ax s_ public_).2)) ?_;clear hh h;intro h hh;rcases isp H with ⟨c21,H⟩|⟨c21,H⟩;rotate_left
      ·skip;repeat apply TW.seq
       refine ct (f2 hh (decide_eq_false c21)) ?_;repeat apply TW.seq
       refine rk [8,9] [] hh ?_;clear hh h;intro h hh;cases H;exact rt hh
      repeat apply TW.seq
      refine cf (f2 hh (decide_eq_true c21)) ?_;repeat apply TW.seq
      refine sk ?_;repeat apply TW.seq
      refine rk [8,9] [] hh ?_;clear hh h;intro h hh;cases H;exact rt hh
     repeat apply TW.seq
     refine ct (f2 hh (decide_eq_true c9)) ?_;repeat apply TW.seq
     refine rk [8,9] [] hh ?_;clear hh h;intro h hh;cases H;exact rt hh
    repeat apply TW.seq
    refine ct (f2 hh (decide_eq_true c8)) ?_;repeat apply TW.seq
    refine rk [8,9] [] hh ?_;clear hh h;intro h hh;cases H;exact rt hh
   repeat apply TW.seq
   refine ct (f2 hh (decide_eq_true c7)) ?_;repeat apply TW.seq
   refine rk [8,9] [] hh ?_;clear hh h;intro h hh;cases H;exact rt hh
  repeat apply TW.seq
  refine ct (f2 hh (decide_eq_true c6)) ?_;repeat apply TW.seq
  refine rk [8,9] [] hh ?_;clear hh h;intro h hh;cases H;exact rt hh
 repeat apply TW.seq
 refine ct (f2 hh (decide_eq_true c2)) ?_;repeat apply TW.seq
 refine rk [8,9] [] hh ?_;clear hh h;intro h hh;cases H;exact rt hh
def zli (k:Nat)  : Option Bool:=((zdv k (zA 16)).bind fun rDigits=>((zdv k (mkAr 16 [255,16,0,0,0,0,0,0,0,0,0,0,0,0,0,0])).bind fun rDigits2=>((zc2 k (⟨#[115]⟩:ByteArray) 7).bind fun rPublic=>((zfe k (⟨#[115]⟩:ByteArray) 1 2 (⟨#[109]⟩:ByteArray)).bind fun rSign=>((zc2 k (⟨#[115]⟩:ByteArray) 0).bind fun rPublic2=>((zfe k (⟨#[115]⟩:ByteArray) 0 0 (⟨#[109]⟩:ByteArray)).bind fun rSign2=>((zbf k rPublic2.1 0 (⟨#[109]⟩:ByteArray) rSign2.1).bind fun rVerify=>(if rSign2.1.size+(⟨#[120]⟩:ByteArray).size≤9223372036854775807 then ((zbf k rPublic2.1 0 (⟨#[109]⟩:ByteArray) (rSign2.1++(⟨#[120]⟩:ByteArray))).bind fun rVerify2=>(((if rPublic.2≠1 then some true else (if rSign.2≠14 then some true else (if rPublic2.2≠0 then some true else (if rSign2.2≠0 then some true else (if rVerify.2≠0 then some true else some (decide (rVerify2.2≠6))))))):Option Bool).bind fun s_=>(if s_=true then some false else (((if (0:Int)≤0∧0<(35:Int) then (if (gx rDigits.l 0)=0 then (if (0:Int)≤31∧31<(35:Int) then (if (gx rDigits.l 31)=0 then (if (0:Int)≤32∧32<(35:Int) then (if (gx rDigits.l 32)=1 then (if (0:Int)≤33∧33<(35:Int) then (if (gx rDigits.l 33)=14 then (if (0:Int)≤34∧34<(35:Int) then (if (gx rDigits.l 34)=0 then (if (gx rDigits2.l 0)=15 then (if (0:Int)≤1∧1<(35:Int) then (if (gx rDigits2.l 1)=15 then (if (0:Int)≤2∧2<(35:Int) then (if (gx rDigits2.l 2)=1 then (if (0:Int)≤3∧3<(35:Int) then (if (gx rDigits2.l 3)=0 then (if (gx rDigits2.l 32)=1 then (if (gx rDigits2.l 33)=12 then some (decide ((gx rDigits2.l 34)=1)) else some false) else some false) else some false) else none) else some false) else none) else some false) else none) else some false) else some false) else none) else some false) else none) else some false) else none) else some false) else none) else some false) else none):Option Bool).bind fun s_2=>(if s_2=true then (if rVerify.1=0 then ((zbm k 3).bind fun rCount=>(if rCount=8 then ((zg3 k 2 3).bind fun rSize=>(if rSize=593 then ((zg3 k 0 0).bind fun rSize2=>some (decide ((rSign2.1.size:Int)=rSize2))) else some false)) else some false)) else some false) else some false))))) else none))))))))
set_option maxHeartbeats 8000000 in
theorem zx0 (ax:Axs) (hx:Pl ax) (k:Nat)  (v:Bool) (H:zli k  = some v):Pure Tryd.prog (EE ax) GLs 9 [] (.bool v):=by
 rw [zli] at H;refine en [.tmp 0] 148 [] (hx.no _ (by decide)) (fn9 ax) ?_;intro h hh;repeat apply TW.seq
 refine rk [] [] hh ?_;clear hh h;intro h hh;obtain ⟨rDigits,e1,H⟩:=zal H;repeat apply TW.seq
 refine rkc [1] [] [(.agg (rDigits.l.map (T.int .i64)),stL [])] (f2 hh (bz23 ax)) ?_ ?_
 ·exact ⟨za1.call ((zgo ax hx k (zA 16) rDigits e1 ).call _),trivial⟩
 clear hh h;intro h hh;obtain ⟨rDigits2,e2,H⟩:=zal H;repeat apply TW.seq
 refine rkc [1,2] [] [(.agg (rDigits2.l.map (T.int .i64)),stL [.cells true 35 (rDigits.l.map (T.int .i64))])] (f2 hh (yky ax)) ?_ ?_
 ·exact ⟨za1.call ((zgo ax hx k (mkAr 16 [255,16,0,0,0,0,0,0,0,0,0,0,0,0,0,0]) rDigits2 e2 ).call _),trivial⟩
 clear hh h;intro h hh;obtain ⟨rPublic,e3,H⟩:=zal H;repeat apply TW.seq
 refine rkc [1,2,4] [] [(.tup [.agg (rPublic.1.l.map (T.int .u8)),.int .i64 rPublic.2],stL [.cells true 35 (rDigits.l.map (T.int .i64)),.cells true 35 (rDigits2.l.map (T.int .i64))])] hh ?_ ?_
 ·exact ⟨za1.call ((ziq ax hx k (⟨#[115]⟩:ByteArray) 7 rPublic e3 ).call _),trivial⟩
 clear hh h;intro h hh;obtain ⟨rSign,e4,H⟩:=zal H;repeat apply TW.seq
 refine rkc [1,2,4,6] [] [(.tup [.str rSign.1,.int .i64 rSign.2],stL [.cells true 35 (rDigits.l.map (T.int .i64)),.cells true 35 (rDigits2.l.map (T.int .i64)),.cells true 16 (rPublic.1.l.map (T.int .u8))])] hh ?_ ?_
 ·exact ⟨za1.call ((zki ax hx k (⟨#[115]⟩:ByteArray) 1 2 (⟨#[109]⟩:ByteArray) rSign e4 ).call _),trivial⟩
 clear hh h;intro h hh;obtain ⟨rPublic2,e5,H⟩:=zal H;repeat apply TW.seq
 refine rkc [1,2,4,6,7,8] [] [(.tup [.agg (rPublic2.1.l.map (T.int .u8)),.int .i64 rPublic2.2],stL [.cells true 35 (rDigits.l.map (T.int .i64)),.cells true 35 (rDigits2.l.map (T.int .i64)),.cells true 16 (rPublic.1.l.map (T.int .u8))])] hh ?_ ?_
 ·exact ⟨za1.call ((ziq ax hx k (⟨#[115]⟩:ByteArray) 0 rPublic2 e5 ).call _),trivial⟩
 clear hh h;intro h hh;obtain ⟨rSign2,e6,H⟩:=zal H;repeat apply TW.seq
 refine rkc [1,2,4,6,7,8,9,10] [] [(.tup [.str rSign2.1,.int .i64 rSign2.2],stL [.cells true 35 (rDigits.l.map (T.int .i64)),.cells true 35 (rDigits2.l.map (T.int .i64)),.cells true 16 (rPublic.1.l.map (T.int .u8)),.cells true 16 (rPublic2.1.l.map (T.int .u8))])] hh ?_ ?_
 ·exact ⟨za1.call ((zki ax hx k (⟨#[115]⟩:ByteArray) 0 0 (⟨#[109]⟩:ByteArray) rSign2 e6 ).call _),trivial⟩
 clear hh h;intro h hh;obtain ⟨rVerify,e7,H⟩:=zal H;repeat apply TW.seq
 refine rkc [1,2,4,6,7,8,9,10,11,12] [] [(.tup [.int .i64 rVerify.1,.int .i64 rVerify.2],stL [.cells true 35 (rDigits.l.map (T.int .i64)),.cells true 35 (rDigits2.l.map (T.int .i64)),.cells true 16 (rPublic.1.l.map (T.int .u8)),.cells true 16 (rPublic2.1.l.map (T.int .u8))])] hh ?_ ?_
 ·exact ⟨za1.call ((zez ax hx k rPublic2.1 0 (⟨#[109]⟩:ByteArray) rSign2.1 rVerify e7 ).call _),trivial⟩
 clear hh h;intro h hh;obtain ⟨g8,H⟩:=isg H;obtain ⟨rVerify2,e9,H⟩:=zal H;repeat apply TW.seq
 refine rkc [1,2,4,6,8,9,10,11,12,14] [] [(.tup [.int .i64 rVerify2.1,.int .i64 rVerify2.2],stL [.cells true 35 (rDigits.l.map (T.int .i64)),.cells true 35 (rDigits2.l.map (T.int .i64)),.cells true 16 (rPublic.1.l.map (T.int .u8)),.cells true 16 (rPublic2.1.l.map (T.int .u8))])] (f2 hh (ye8 g8)) ?_ ?_
 ·exact ⟨za1.call ((zez ax hx k rPublic2.1 0 (⟨#[109]⟩:ByteArray) (rSign2.1++(⟨#[120]⟩:ByteArray)) rVerify2 e9 ).call _),trivial⟩
 clear hh h;intro h hh;obtain ⟨s_,H1,H⟩:=zal H;repeat apply TW.seq
 refine cu [1,2,9,11,70] 4 (fun h bs=>(h 1=.ptr 0 0 35∧h 2=.ptr 1 0 35∧h 9=.str rSign2.1∧h 11=.int .i64 rVerify.1∧h 70=.bool s_)∧bs=[.cells true 35 (rDigits.l.map (T.int .i64)),.cells true 35 (rDigits2.l.map (T.int .i64)),.cells true 16 (rPublic.1.l.map (T.int .u8)),.cells true 16 (rPublic2.1.l.map (T.int .u8))]) ?_ ?_
 ·skip;rcases isp H1 with ⟨c10,H1⟩|⟨c10,H1⟩;rotate_left
  ·skip;rcases isp H1 with ⟨c11,H1⟩|⟨c11,H1⟩;rotate_left
   ·skip;rcases isp H1 with ⟨c12,H1⟩|⟨c12,H1⟩;rotate_left
    ·skip;rcases isp H1 with ⟨c13,H1⟩|⟨c13,H1⟩;rotate_left
     ·skip;rcases isp H1 with ⟨c14,H1⟩|⟨c14,H1⟩;rotate_left
      ·skip;repeat apply TW.seq
       refine rk [1,2,9,11,70] [] (f3 hh (decide_eq_false c10) (f3 (decide_eq_false c11) (decide_eq_false c12) (f2 (decide_eq_false c13) (decide_eq_false c14)))) ?_;clear hh h;intro h hh;cases H1;exact ce hh ⟨kq hh,rfl⟩
      repeat apply TW.seq
      refine rk [1,2,9,11,70] [] (f3 hh (decide_eq_false c10) (f3 (decide_eq_false c11) (decide_eq_false c12) (f2 (decide_eq_false c13) (decide_eq_true c14)))) ?_;clear hh h;intro h hh;cases H1;exact ce hh ⟨kq hh,rfl⟩
     repeat apply TW.seq
     refine rk [1,2,9,11,70] [] (f3 hh (decide_eq_false c10) (f3 (decide_eq_false c11) (decide_eq_false c12) (decide_eq_true c13))) ?_;clear hh h;intro h hh;cases H1;exact ce hh ⟨kq hh,rfl⟩
    repeat apply TW.seq
    refine rk [1,2,9,11,70] [] (f3 hh (decide_eq_false c10) (f2 (decide_eq_false c11) (decide_eq_true c12))) ?_;clear hh h;intro h hh;cases H1;exact ce hh ⟨kq hh,rfl⟩
   repeat apply TW.seq
   refine rk [1,2,9,11,70] [] (f3 hh (decide_eq_false c10) (decide_eq_true c11)) ?_;clear hh h;intro h hh;cases H1;exact ce hh ⟨kq hh,rfl⟩
  repeat apply TW.seq
  refine rk [1,2,9,11,70] [] (f2 hh (decide_eq_true c10)) ?_;clear hh h;intro h hh;cases H1;exact ce hh ⟨kq hh,rfl⟩
 clear hh h;rintro h bs ⟨hh,rfl⟩;rcases isb H with ⟨c15,H⟩|⟨c15,H⟩;rotate_left
 ·skip;repeat apply TW.seq
  refine cf (f2 hh c15) ?_;repeat apply TW.seq
  refine sk ?_;obtain ⟨s_2,H1,H⟩:=zal H;repeat apply TW.seq
  refine cu [9,11,15] 4 (fun h bs=>(h 9=.str rSign2.1∧h 11=.int .i64 rVerify.1∧h 15=.bool s_2)∧bs=[.cells true 35 (rDigits.l.map (T.int .i64)),.cells true 35 (rDigits2.l.map (T.int .i64)),.cells true 16 (rPublic.1.l.map (T.int .u8)),.cells true 16 (rPublic2.1.l.map (T.int .u8))]) ?_ ?_
  ·skip;obtain ⟨g16,H1⟩:=isg H1;rcases isp H1 with ⟨c17,H1⟩|⟨c17,H1⟩;rotate_left
   ·skip;repeat apply TW.seq
    refine rk [9,11,15] [] (f3 hh (decide_eq_false c17) (f2 c15 (arIx rDigits g16))) ?_;clear hh h;intro h hh;cases H1;exact ce hh ⟨kq hh,rfl⟩
   obtain ⟨g18,H1⟩:=isg H1;rcases isp H1 with ⟨c19,H1⟩|⟨c19,H1⟩;rotate_left
   ·skip;repeat apply TW.seq
    refine rk [9,11,15] [] (f3 hh (decide_eq_true c17) (f3 (decide_eq_false c19) c15 (f2 (arIx rDigits g16) (arIx rDigits g18)))) ?_;clear hh h;intro h hh;cases H1;exact ce hh ⟨kq hh,rfl⟩
   obtain ⟨g20,H1⟩:=isg H1;rcases isp H1 with ⟨c21,H1⟩|⟨c21,H1⟩;rotate_left
   ·skip;repeat apply TW.seq
    refine rk [9,11,15] [] (f3 hh (decide_eq_true c17) (f3 (decide_eq_true c19) (decide_eq_false c21) (f3 c15 (arIx rDigits g16) (f2 (arIx rDigits g18) (arIx rDigits g20))))) ?_;clear hh h;intro h hh;cases H1;exact ce hh ⟨kq hh,rfl⟩
   obtain ⟨g22,H1⟩:=isg H1;rcases isp H1 with ⟨c23,H1⟩|⟨c23,H1⟩;rotate_left
   ·skip;repeat apply TW.seq
    refine rk [9,11,15] [] (f3 hh (decide_eq_true c17) (f3 (decide_eq_true c19) (decide_eq_true c21) (f3 (decide_eq_false c23) c15 (f3 (arIx rDigits g16) (arIx rDigits g18) (f2 (arIx rDigits g20) (arIx rDigits g22)))))) ?_;clear hh h;intro h hh;cases H1;exact ce hh ⟨kq hh,rfl⟩
   obtain ⟨g24,H1⟩:=isg H1;rcases isp H1 with ⟨c25,H1⟩|⟨c25,H1⟩;rotate_left
   ·skip;repeat apply TW.seq
    refine rk [9,11,15] [] (f3 hh (decide_eq_true c17) (f3 (decide_eq_true c19) (decide_eq_true c21) (f3 (decide_eq_true c23) (decide_eq_false c25) (f3 c15 (arIx rDigits g16) (f3 (arIx rDigits g18) (arIx rDigits g20) (f2 (arIx rDigits g22) (arIx rDigits g24))))))) ?_;clear hh h;intro h hh;cases H1;exact ce hh ⟨kq hh,rfl⟩
   rcases isp H1 with ⟨c26,H1⟩|⟨c26,H1⟩;rotate_left
   ·skip;repeat apply TW.seq
    refine rk [9,11,15] [] (f3 hh (decide_eq_true c17) (f3 (decide_eq_true c19) (decide_eq_true c21) (f3 (decide_eq_true c23) (decide_eq_true c25) (f3 (decide_eq_false c26) c15 (f3 (arIx rDigits g16) (arIx rDigits g18) (f3 (arIx rDigits g20) (arIx rDigits g22) (f2 (arIx rDigits g24) (arIx rDigits2 g16)))))))) ?_;clear hh h;intro h hh;cases H1;exact ce hh ⟨kq hh,rfl⟩
   obtain ⟨g27,H1⟩:=isg H1;rcases isp H1 with ⟨c28,H1⟩|⟨c28,H1⟩;rotate_left
   ·skip;repeat apply TW.seq
    refine rk [9,11,15] [] (f3 hh (decide_eq_true c17) (f3 (decide_eq_true c19) (decide_eq_true c21) (f3 (decide_eq_true c23) (decide_eq_true c25) (f3 (decide_eq_true c26) (decide_eq_false c28) (f3 c15 (arIx rDigits g16) (f3 (arIx rDigits g18) (arIx rDigits g20) (f3 (arIx rDigits g22) (arIx rDigits g24) (f2 (arIx rDigits2 g16) (arIx rDigits2 g27))))))))) ?_;clear hh h;intro h hh;cases H1;exact ce hh ⟨kq hh,rfl⟩
   obtain ⟨g29,H1⟩:=isg H1;rcases isp H1 with ⟨c30,H1⟩|⟨c30,H1⟩;rotate_left
   ·skip;repeat apply TW.seq
    refine rk [9,11,15] [] (f3 hh (decide_eq_true c17) (f3 (decide_eq_true c19) (decide_eq_true c21) (f3 (decide_eq_true c23) (decide_eq_true c25) (f3 (decide_eq_true c26) (decide_eq_true c28) (f3 (decide_eq_false c30) c15 (f3 (arIx rDigits g16) (arIx rDigits g18) (f3 (arIx rDigits g20) (arIx rDigits g22) (f3 (arIx rDigits g24) (arIx rDigits2 g16) (f2 (arIx rDigits2 g27) (arIx rDigits2 g29)))))))))) ?_;clear hh h;intro h hh;cases H1;exact ce hh ⟨kq hh,rfl⟩
   obtain ⟨g31,H1⟩:=isg H1;rcases isp H1 with ⟨c32,H1⟩|⟨c32,H1⟩;rotate_left
   ·skip;repeat apply TW.seq
    refine rk [9,11,15] [] (f3 hh (decide_eq_true c17) (f3 (decide_eq_true c19) (decide_eq_true c21) (f3 (decide_eq_true c23) (decide_eq_true c25) (f3 (decide_eq_true c26) (decide_eq_true c28) (f3 (decide_eq_true c30) (decide_eq_false c32) (f3 c15 (arIx rDigits g16) (f3 (arIx rDigits g18) (arIx rDigits g20) (f3 (arIx rDigits g22) (arIx rDigits g24) (f3 (arIx rDigits2 g16) (arIx rDigits2 g27) (f2 (arIx rDigits2 g29) (arIx rDigits2 g31))))))))))) ?_;clear hh h;intro h hh;cases H1;exact ce hh ⟨kq hh,rfl⟩
   rcases isp H1 with ⟨c33,H1⟩|⟨c33,H1⟩;rotate_left
   ·skip;repeat apply TW.seq
    refine rk [9,11,15] [] (f3 hh (decide_eq_true c17) (f3 (decide_eq_true c19) (decide_eq_true c21) (f3 (decide_eq_true c23) (decide_eq_true c25) (f3 (decide_eq_true c26) (decide_eq_true c28) (f3 (decide_eq_true c30) (decide_eq_true c32) (f3 (decide_eq_false c33) c15 (f3 (arIx rDigits g16) (arIx rDigits g18) (f3 (arIx rDigits g20) (arIx rDigits g22) (f3 (arIx rDigits g24) (arIx rDigits2 g16) (f3 (arIx rDigits2 g27) (arIx rDigits2 g29) (f2 (arIx rDigits2 g31) (arIx rDigits2 g20)))))))))))) ?_;clear hh h;intro h hh;cases H1;exact ce hh ⟨kq hh,rfl⟩
   rcases isp H1 with ⟨c34,H1⟩|⟨c34,H1⟩;rotate_left
   ·skip;repeat apply TW.seq
    refine rk [9,11,15] [] (f3 hh (decide_eq_true c17) (f3 (decide_eq_true c19) (decide_eq_true c21) (f3 (decide_eq_true c23) (decide_eq_true c25) (f3 (decide_eq_true c26) (decide_eq_true c28) (f3 (decide_eq_true c30) (decide_eq_true c32) (f3 (decide_eq_true c33) (decide_eq_false c34) (f3 c15 (arIx rDigits g16) (f3 (arIx rDigits g18) (arIx rDigits g20) (f3 (arIx rDigits g22) (arIx rDigits g24) (f3 (arIx rDigits2 g16) (arIx rDigits2 g27) (f3 (arIx rDigits2 g29) (arIx rDigits2 g31) (f2 (arIx rDigits2 g20) (arIx rDigits2 g22))))))))))))) ?_;clear hh h;intro h hh;cases H1;exact ce hh ⟨kq hh,rfl⟩
   repeat apply TW.seq
   refine rk [9,11,15] [] (f3 hh (decide_eq_true c17) (f3 (decide_eq_true c19) (decide_eq_true c21) (f3 (decide_eq_true c23) (decide_eq_true c25) (f3 (decide_eq_true c26) (decide_eq_true c28) (f3 (decide_eq_true c30) (decide_eq_true c32) (f3 (decide_eq_true c33) (decide_eq_true c34) (f3 c15 (arIx rDigits g16) (f3 (arIx rDigits g18) (arIx rDigits g20) (f3 (arIx rDigits g22) (arIx rDigits g24) (f3 (arIx rDigits2 g16) (arIx rDigits2 g27) (f3 (arIx rDigits2 g29) (arIx rDigits2 g31) (f3 (arIx rDigits2 g20) (arIx rDigits2 g22) (arIx rDigits2 g24))))))))))))) ?_;clear hh h;intro h hh;cases H1;exact ce hh ⟨kq hh,rfl⟩
  clear hh h;rintro h bs ⟨hh,rfl⟩;rcases isb H with ⟨c35,H⟩|⟨c35,H⟩;rotate_left
  ·skip;repeat apply TW.seq
   refine rk [0] [] (f3 hh c35 c15) ?_;clear hh h;intro h hh;cases H;exact rt hh
  rcases isp H with ⟨c36,H⟩|⟨c36,H⟩;rotate_left
  ·skip;repeat apply TW.seq
   refine rk [0] [] (f3 hh c35 (f2 (decide_eq_false c36) c15)) ?_;clear hh h;intro h hh;cases H;exact rt hh
  obtain ⟨rCount,e37,H⟩:=zal H;rcases isp H with ⟨c38,H⟩|⟨c38,H⟩;rotate_left
  ·skip;repeat apply TW.seq
   refine rkc [0] [] [(.int .i64 rCount,stL [.cells true 35 (rDigits.l.map (T.int .i64)),.cells true 35 (rDigits2.l.map (T.int .i64)),.cells true 16 (rPublic.1.l.map (T.int .u8)),.cells true 16 (rPublic2.1.l.map (T.int .u8))])] (f3 hh c35 (f3 (decide_eq_true c36) (decide_eq_false c38) c15)) ?_ ?_
   ·exact ⟨za1.call (Pure.clr (zb1 ax hx k 3 rCount e37 ) (by first|rfl|simp only [c15,c35])),trivial⟩
   clear hh h;intro h hh;cases H;exact rt hh
  obtain ⟨rSize,e39,H⟩:=zal H;rcases isp H with ⟨c40,H⟩|⟨c40,H⟩;rotate_left
  ·skip;repeat apply TW.seq
   refine rkc [0] [] [(.int .i64 rCount,stL [.cells true 35 (rDigits.l.map (T.int .i64)),.cells true 35 (rDigits2.l.map (T.int .i64)),.cells true 16 (rPublic.1.l.map (T.int .u8)),.cells true 16 (rPublic2.1.l.map (T.int .u8))]),(.int .i64 rSize,stL [.cells true 35 (rDigits.l.map (T.int .i64)),.cells true 35 (rDigits2.l.map (T.int .i64)),.cells true 16 (rPublic.1.l.map (T.int .u8)),.cells true 16 (rPublic2.1.l.map (T.int .u8))])] (f3 hh c35 (f3 (decide_eq_true c36) (decide_eq_true c38) (f2 (decide_eq_false c40) c15))) ?_ ?_
   ·exact ⟨za1.call (Pure.clr (zb1 ax hx k 3 rCount e37 ) (by first|rfl|simp only [c15,c35])),za1.call (Pure.clr (zh3 ax hx k 2 3 rSize e39 ) (by first|rfl|simp only [c15,c35])),trivial⟩
   clear hh h;intro h hh;cases H;exact rt hh
  obtain ⟨rSize2,e41,H⟩:=zal H;repeat apply TW.seq
  refine rkc [0] [] [(.int .i64 rCount,stL [.cells true 35 (rDigits.l.map (T.int .i64)),.cells true 35 (rDigits2.l.map (T.int .i64)),.cells true 16 (rPublic.1.l.map (T.int .u8)),.cells true 16 (rPublic2.1.l.map (T.int .u8))]),(.int .i64 rSize,stL [.cells true 35 (rDigits.l.map (T.int .i64)),.cells true 35 (rDigits2.l.map (T.int .i64)),.cells true 16 (rPublic.1.l.map (T.int .u8)),.cells true 16 (rPublic2.1.l.map (T.int .u8))]),(.int .i64 rSize2,stL [.cells true 35 (rDigits.l.map (T.int .i64)),.cells true 35 (rDigits2.l.map (T.int .i64)),.cells true 16 (rPublic.1.l.map (T.int .u8)),.cells true 16 (rPublic2.1.l.map (T.int .u8))])] (f3 hh c35 (f3 (decide_eq_true c36) (decide_eq_true c38) (f2 (decide_eq_true c40) c15))) ?_ ?_
  ·exact ⟨za1.call (Pure.clr (zb1 ax hx k 3 rCount e37 ) (by first|rfl|simp only [c15,c35])),za1.call (Pure.clr (zh3 ax hx k 2 3 rSize e39 ) (by first|rfl|simp only [c15,c35])),za1.call (Pure.clr (zh3 ax hx k 0 0 rSize2 e41 ) (by first|rfl|simp only [c15,c35])),trivial⟩
  clear hh h;intro h hh;cases H;exact rt hh
 repeat apply TW.seq
 refine ct (f2 hh c15) ?_;repeat apply TW.seq
 refine rk [0] [] (f2 hh c15) ?_;clear hh h;intro h hh;cases H;exact rt hh
end
section
open Go Go.RowKit
set_option maxRecDepth 100000
def dgN (d:Ar 16) (j:Nat):Nat:=(gx (digA d).l (j:Int)).toNat
theorem z46 {d:Ar 16} (hd:Byt d) {j:Nat} (hj:j<35):dgN d j≤15∧gx (digA d).l (j:Int)=(dgN d j:Int):=by
  have:=yek hd hj;unfold dgN;omega
theorem ycf {n:Nat} (d:Ar n) (h:∀ x∈d.l,0≤x∧x<256):Byt d:=by
  intro j hj;rw [ya3,List.getD_eq_getElem?_getD,List.getElem?_eq_getElem (by rw [d.h];exact hj)];exact h _ (List.getElem_mem _)
theorem zwf (t:Int) (ps:List ByteArray):∀ x∈(ofD t ps).l,0≤x∧x<256:=by
  intro x hx;rw [yh0] at hx;obtain ⟨c,_,rfl⟩:=List.mem_map.1 hx;have:=c.toNat_lt;omega
theorem zq2 (s:ByteArray):∀ x∈bytL s,0≤x∧x<256:=by
  intro x hx;unfold bytL at hx;obtain ⟨c,_,rfl⟩:=List.mem_map.1 hx;have:=c.toNat_lt;omega
theorem yin (s:ByteArray):∀ x∈(cpA (zA 16) s).l,0≤x∧x<256:=by
  intro x hx;unfold cpA at hx;rcases List.mem_append.1 hx with h|h
  · exact zq2 s x (List.mem_of_mem_take h)
  · have:=List.eq_of_mem_replicate (List.mem_of_mem_drop h);rw [this];omega
theorem zo9 (i j:Nat):∀ (n t:Nat) (v:Dg),(∀ x∈v.l,0≤x∧x<256)→∀ x∈(zdt i j t n v).l,0≤x∧x<256
  |0,t,v,h=>h
  |n+1,t,v,h=>zo9 i j n (t+1) (stp i j t v) (zwf _ _)
theorem yc0 (seed:ByteArray):∀ (l n:Nat),∀ x∈(valF seed l n).l,0≤x∧x<256
  |0,n=>zwf _ _
  |l+1,n=>zwf _ _
theorem yc2 {x:Int} (h:0≤x∧x<256):((u8o x).toNat:Int)=x:=by
  unfold u8o;rw [UInt8.toNat_ofNat'];omega
theorem zs8:∀ {l:List Int},(∀ x∈l,0≤x∧x<256)→bytL (strL l)=l:=by
  intro l h;unfold bytL strL;simp only [List.map_map]
  have:∀ (l:List Int),(∀ x∈l,0≤x∧x<256)→l.map ((fun c:UInt8=>(c.toNat:Int)) ∘ u8o)=l:=by
    intro l
    induction l with
    |nil=>intro _;rfl
    |cons x l ih =>
      intro h;rw [List.map_cons,ih fun y hy=>h y (.tail _ hy)];show ((u8o x).toNat:Int) :: l=_;rw [yc2 (h x (.head _))]
  exact this l h
theorem sib64:∀ (i:_root_.Fin 64) (l:_root_.Fin 7),IntKind.i64.wrap (((BitVec.ofInt IntKind.i64.bits (((i.val:Nat):Int).fdiv (2 ^ (min ((l.val:Nat):Int).toNat IntKind.i64.bits))) ^^^ BitVec.ofInt IntKind.i64.bits 1).toNat:Int))=(((if (i.val / 2 ^ l.val) % 2=0 then i.val / 2 ^ l.val+1 else i.val / 2 ^ l.val - 1):Nat):Int):=by decide +kernel
theorem odd64:∀ (i:_root_.Fin 64) (l:_root_.Fin 7),IntKind.i64.wrap (((BitVec.ofInt IntKind.i64.bits (((i.val:Nat):Int).fdiv (2 ^ (min ((l.val:Nat):Int).toNat IntKind.i64.bits))) &&& BitVec.ofInt IntKind.i64.bits 1).toNat:Int))=(((i.val / 2 ^ l.val) % 2:Nat):Int):=by decide +kernel
theorem yjr:∀ (i:_root_.Fin 64) (l:_root_.Fin 7),((i.val:Nat):Int).fdiv (2 ^ (min (((l.val+1:Nat):Int)).toNat IntKind.i64.bits))=((i.val / 2 ^ (l.val+1):Nat):Int):=by decide +kernel
def sib (i l:Nat):Nat:=if (i / 2 ^ l) % 2=0 then i / 2 ^ l+1 else i / 2 ^ l - 1
theorem yjq:∀ (h:_root_.Fin 7) (i:_root_.Fin 64) (l:_root_.Fin 7),i.val<2 ^ h.val→l.val<h.val→sib i.val l.val<2 ^ (h.val - l.val):=by decide +kernel
def sgB (seed:ByteArray) (i:Nat) (D:Ar 16) (j:Nat):Dg:=if j<35 then zdt i j 1 (dgN D j) (zlc seed i j) else valF seed (j - 35) (sib i (j - 35))
theorem yhp (seed:ByteArray) (i:Nat) (D:Ar 16) (j:Nat):∀ x∈(sgB seed i D j).l,0≤x∧x<256:=by
  unfold sgB;split
  · exact zo9 _ _ _ _ _ (yin _)
  · exact yc0 _ _ _
def sgL (B:Nat→Dg) (i n:Nat):List Int:=[2*(i:Int)]++catL (fun j=>(B j).l) 0 n
theorem z8j (k:Nat) {seed:ByteArray} (hs:seed.size≤4000) {i:Nat} (hi:i<64) (D:Ar 16) (hD:Byt D):∀ (n j m:Nat) (a:List Int) (c:Nat),j+n=35→n<m→c≤10+16*j→zc1 (k+100) seed (i:Int) (digA D) m (j:Int) a c=some (a++catL (fun j=>(sgB seed i D j).l) j n,c+16*n)
  |0,j,m+1,a,c,h1,h2,h3=>by
    rw [zc1,if_neg (by omega)]
    simp [catL]
  |n+1,j,m+1,a,c,h1,h2,h3=>by
    have hd:=z46 hD (show j<35 by omega);rw [zc1,if_pos (by omega),if_pos (by omega),z2s (k+90) hs hi (by omega)];simp only [Option.bind_some];have e:=zxa (k+70) hi (show j<64 by omega) (fr:=0) (Nat.zero_le _) hd.1 (zlc seed i j);rw [show ((0:Nat):Int)=0 from rfl,Nat.zero_add,Nat.sub_zero] at e;rw [hd.2,e];simp only [Option.bind_some];rw [if_pos (by omega),wi (by omega)];have eB:sgB seed i D j=zdt i j 1 (dgN D j) (zlc seed i j):=if_pos (by omega);have:=z8j k hs hi D hD n (j+1) m (a++(zdt i j 1 (dgN D j) (zlc seed i j)).l) (c+16) (by omega) (by omega) (by omega);rw [show ((j:Int)+1)=((j+1:Nat):Int) by omega,this];show some (a++_++catL _ (j+1) n,_)=some (a++((sgB seed i D j).l++catL _ (j+1) n),_);rw [List.append_assoc,eB,show c+16+16*n=c+16*(n+1) by omega]
theorem z8i (k:Nat) (seed:ByteArray) {h i:Nat} (hh:h≤6) (hi:i<2 ^ h) (D:Ar 16):∀ (n l m:Nat) (a:List Int) (c:Nat),l+n=h→n<m→c≤1000+16*l→zc0 k (h:Int) (i:Int) (mapR (levF seed h) 0 (h+1)) m (l:Int) a c=some (a++catL (fun j=>(sgB seed i D j).l) (35+l) n,c+16*n)
  |0,l,m+1,a,c,h1,h2,h3=>by
    rw [zc0,if_neg (by omega)]
    simp [catL]
  |n+1,l,m+1,a,c,h1,h2,h3=>by
    have hp:=zf5 hh;have e:=sib64 ⟨i,by omega⟩ ⟨l,by omega⟩;simp only at e;have es:(((if i / 2 ^ l % 2=0 then i / 2 ^ l+1 else i / 2 ^ l - 1):Nat):Int)=(sib i l:Int):=rfl;rw [es] at e;have hlt:=yjq ⟨h,by omega⟩ ⟨i,by omega⟩ ⟨l,by omega⟩ hi (by simp only;omega);simp only at hlt;have g1:=zje (levF seed h) (h+1) 0 l (by omega);rw [Nat.zero_add] at g1;have g2:=zje (valF seed l) (2 ^ (h - l)) 0 (sib i l) hlt;rw [Nat.zero_add] at g2;have hlen:(levF seed h l).length=2 ^ (h - l):=zep _ _ _;rw [zc0,if_pos (by omega),if_pos (by rw [zep];omega),if_pos (by omega),e,g1,if_pos (by rw [hlen];omega),if_pos (by omega),wi (by omega)]
    have eB:sgB seed i D (35+l)=valF seed l (sib i l):=by
      unfold sgB;rw [if_neg (by omega),show 35+l - 35=l by omega]
    unfold levF;rw [g2];have:=z8i k seed hh hi D n (l+1) m (a++(valF seed l (sib i l)).l) (c+16) (by omega) (by omega) (by omega);unfold levF at this;rw [show ((l:Int)+1)=((l+1:Nat):Int) by omega,this];show some (a++_++catL _ (35+(l+1)) n,_)=some (a++((sgB seed i D (35+l)).l++catL _ (35+l+1) n),_);rw [List.append_assoc,eB,show c+16+16*n=c+16*(n+1) by omega];rfl
theorem z5p (f:Nat→List Int):∀ (a i b:Nat),catL f i a++catL f (i+a) b=catL f i (a+b)
  |0,i,b=>by rw [Nat.zero_add];rfl
  |a+1,i,b=>by
    rw [show a+1+b=(a+b)+1 by omega];show (f i++catL f (i+1) a)++_=f i++catL f (i+1) (a+b);rw [List.append_assoc,show i+(a+1)=i+1+a by omega,z5p f a (i+1) b]
def mdF (seed:ByteArray) (h i:Nat) (m:ByteArray):Dg:=msgF (valF seed h 0) i m
theorem zqr (p:Dg) (i:Nat) (m:ByteArray):Byt (msgF p i m):=ycf _ (zwf _ _)
theorem z8h (k:Nat) {seed m:ByteArray} (hs:seed.size≤4000) (hm:m.size≤4000) {h i:Nat} (hh:h≤6) (hi:i<2 ^ h):zfe (k+100) seed (h:Int) (i:Int) m=some (strL (sgL (sgB seed i (mdF seed h i m)) i (35+h)),0):=by
  have hp:=zf5 hh;have hM:Byt (mdF seed h i m):=zqr _ _ _;unfold zfe;rw [zh8 _ h hh];simp only [Option.bind_some];rw [if_neg (by omega),if_neg (by omega)];simp only [Option.bind_some];rw [if_neg (by rw [decide_eq_true_eq];omega),z7i k hs hh];simp only [Option.bind_some];rw [zmh (k+99) (by omega)];simp only [Option.bind_some];rw [if_pos (by rw [zep];omega),yac,if_pos (by simp)];rw [show gx [valF seed h 0] 0=valF seed h 0 from rfl,yfx (k+99) _ (by omega) hm];simp only [Option.bind_some];rw [show msgF (valF seed h 0) i m=mdF seed h i m from rfl,zn7 (k+80) _ hM];simp only [Option.bind_some];have e0:=z8j k hs (show i<64 by omega) (mdF seed h i m) hM 35 0 (k+100) [2*(i:Int)] 1 (by omega) (by omega) (by omega);rw [show ((0:Nat):Int)=0 from rfl] at e0;rw [e0];simp only [Option.bind_some];have e1:=z8i (k+100) seed hh hi (mdF seed h i m) h 0 (k+100) ([2*(i:Int)]++catL (fun j=>(sgB seed i (mdF seed h i m) j).l) 0 35) (1+16*35) (by omega) (by omega) (by omega);rw [show ((0:Nat):Int)=0 from rfl,Nat.add_zero] at e1;rw [e1];simp only [Option.bind_some];have ec:=z5p (fun j=>(sgB seed i (mdF seed h i m) j).l) 35 0 h;rw [Nat.zero_add] at ec
  rw [if_pos (by
    rw [List.append_assoc,ec,List.length_append,zq1 _ 16 _ _ fun j _ _=>(sgB seed i (mdF seed h i m) j).h]
    simp only [List.length_cons,List.length_nil];omega),List.append_assoc,ec]
  rfl
theorem z6d (k:Nat) (seed m:ByteArray) {h:Nat} (hh:h≤6) {i:Int} (hi:i<0∨((2 ^ h:Nat):Int)≤i):zfe k seed (h:Int) i m=some (⟨#[]⟩,14):=by
  have hp:=zf5 hh;unfold zfe;rw [zh8 _ h hh];simp only [Option.bind_some];rw [if_neg (by omega)];by_cases h0:i<0
  · rw [if_pos h0];rfl
  · rw [if_neg h0];simp only [Option.bind_some];rw [if_pos (by rw [decide_eq_true_eq];omega)]
theorem zvz (k:Nat) {h i:Nat} (hh:h≤6) (hi:i<2 ^ h):zg3 (k+1) (h:Int) (i:Int)=some (1+16*(35+(h:Int))):=by
  have hp:=zf5 hh;unfold zg3;rw [if_neg (by omega),zh8 _ h hh];simp only [Option.bind_some];rw [if_neg (by rw [decide_eq_true_eq];omega),ziy k (by omega)];simp only [Option.bind_some];rw [wi (show _∧35+(h:Int)≤_ by omega),wi (show _∧16*(35+(h:Int))≤_ by omega)];simp only [List.length_cons,List.length_nil];rw [wi (by omega)];congr 1
theorem get64:∀ (i:_root_.Fin 64),IntKind.u64.wrap (((BitVec.ofInt IntKind.u64.bits 0 ||| BitVec.ofInt IntKind.u64.bits (IntKind.u64.wrap ((IntKind.u64.wrap (IntKind.u8.wrap (((BitVec.ofInt IntKind.u8.bits (2*((i.val:Nat):Int)) &&& BitVec.ofInt IntKind.u8.bits 127).toNat:Int))))*2 ^ (min (0:Int).toNat IntKind.u64.bits)))).toNat:Int))=2*((i.val:Nat):Int):=by decide +kernel
theorem zag64:∀ (i:_root_.Fin 64),IntKind.i64.wrap (((BitVec.ofInt IntKind.i64.bits (IntKind.i64.wrap ((2*((i.val:Nat):Int)).fdiv (2 ^ (min (1:Int).toNat IntKind.u64.bits)))) ^^^ BitVec.ofInt IntKind.i64.bits (IntKind.i64.wrap (0 - (IntKind.i64.wrap (IntKind.u64.wrap (((BitVec.ofInt IntKind.u64.bits (2*((i.val:Nat):Int)) &&& BitVec.ofInt IntKind.u64.bits 1).toNat:Int))))))).toNat:Int))=((i.val:Nat):Int):=by decide +kernel
theorem zuz (k:Nat) {i:Nat} (hi:i<64) (r:List Int):zex (k+1) (2*(i:Int) :: r)=some ((i:Int),1,0):=by
  unfold zex;rw [zdk,if_pos (by simp only [List.length_cons];omega),if_pos (by simp only [List.length_cons];omega),if_neg (by omega)];simp only [Option.bind_some];rw [if_neg (by simp),if_neg (by omega)];simp only [Option.bind_some];rw [if_neg (by simp),show IntKind.i64.wrap (7*0)=0 from rfl,if_pos (by omega),show gx (2*(i:Int) :: r) 0=2*(i:Int) from rfl,if_pos (by omega),get64 ⟨i,hi⟩];simp only [Option.bind_some,Sum.elim_inr];rw [wi (show _∧(0:Int)+1≤_ by omega),if_neg (by omega),if_pos (by omega),zag64 ⟨i,hi⟩];rfl
end
section
open Go Go.RowKit
set_option maxRecDepth 100000
theorem zji (s:ByteArray) (a b:Nat):bytL (s.extract a b)=((bytL s).drop a).take (b - a):=by
  unfold bytL;rw [ByteArray.data_extract,Array.toList_extract,List.extract_eq_take_drop,List.map_take,List.map_drop]
theorem zs9 (s t:ByteArray):bytL (s++t)=bytL s++bytL t:=by
  unfold bytL;rw [ByteArray.data_append,Array.toList_append,List.map_append]
theorem size_append (s t:ByteArray):(s++t).size=s.size+t.size:=ByteArray.size_append
def blkA (S:List Int) (o:Nat):Dg:=mkAr 16 ((S.drop o).take 16)
theorem ygr {S:List Int} {o:Nat} (h:o+16≤S.length):(blkA S o).l=(S.drop o).take 16:=z35 (by rw [List.length_take,List.length_drop];omega)
theorem ybv (s:ByteArray) {o:Nat} (h:o+16≤s.size):cpA (zA 16) (s.extract o s.size)=blkA (bytL s) o:=by
  apply Ar.ext';rw [ygr (by rw [zhg];exact h)]
  have hs:(s.extract o s.size).size=s.size - o:=by
    rw [← zhg,zji,List.length_take,List.length_drop,zhg];omega
  show (bytL (s.extract o s.size)).take (min (s.extract o s.size).size 16)++(zA 16).l.drop (min (s.extract o s.size).size 16)=_;rw [hs,Nat.min_eq_right (by omega),zji,List.drop_of_length_le (show (zA 16).l.length≤16 by rw [(zA 16).h];omega),List.append_nil,List.take_take,Nat.min_eq_left (by omega)]
theorem z7h (k:Nat) (s:ByteArray) {y:Nat} (hs:s.size≤1000000000) (h:1+16*y+16≤s.size):zbi k (y:Int) s 1=some (blkA (bytL s) (1+16*y)):=by
  unfold zbi;rw [wi (show _∧(y:Int)*16≤_ by omega),wi (show _∧1+(y:Int)*16≤_ by omega),if_pos (by omega)];unfold zhj;simp only [Option.bind_some];rw [show (1+(y:Int)*16).toNat=1+16*y by omega,ybv s (by omega)]
def rtL (i:Nat) (B:Nat→Dg):Nat→Nat→Dg→Dg
  |_,0,v=>v
  |l,n+1,v=>rtL i B (l+1) n (if (i / 2 ^ l) % 2=1 then zsk (l+1) (i / 2 ^ (l+1)) (B (35+l)) v else zsk (l+1) (i / 2 ^ (l+1)) v (B (35+l)))
theorem z7g (k:Nat) (s:ByteArray) {h i:Nat} (hh:h≤6) (hi:i<64) (hs:s.size=1+16*(35+h)):∀ (n l m:Nat) (v:Dg),l+n=h→n<m→zbk (k+10) (h:Int) s ((i:Int),1,0) m (l:Int) v=some (rtL i (fun j=>blkA (bytL s) (1+16*j)) l n v)
  |0,l,m+1,v,h1,h2=>by
    rw [zbk,if_neg (by omega)];rfl
  |n+1,l,m+1,v,h1,h2=>by
    have e:=odd64 ⟨i,hi⟩ ⟨l,by omega⟩;have e2:=yjr ⟨i,hi⟩ ⟨l,by omega⟩;simp only at e e2;have hq:i / 2 ^ (l+1)<64:=Nat.lt_of_le_of_lt (Nat.div_le_self _ _) hi;have ev:=z7h (k+10) s (y:=35+l) (by omega) (by omega);rw [show ((35+l:Nat):Int)=35+(l:Int) by omega] at ev;rw [zbk,if_pos (by omega),wi (show _∧35+(l:Int)≤_ by omega),ev];simp only [Option.bind_some];rw [if_pos (by omega),e,wi (show _∧(l:Int)+1≤_ by omega),show ((l:Int)+1)=((l+1:Nat):Int) by omega,e2];show _=some (rtL i _ (l+1) n (if (i / 2 ^ l) % 2=1 then _ else _));by_cases hb:i / 2 ^ l % 2=1
    · rw [if_pos (by omega),if_pos (by omega),if_pos hb,z1w k (by omega) hq];simp only [Option.bind_some];exact z7g k s hh hi hs n (l+1) m _ (by omega) (by omega)
    · rw [if_neg (by omega),if_pos (by omega),if_neg hb,z1w k (by omega) hq];simp only [Option.bind_some];exact z7g k s hh hi hs n (l+1) m _ (by omega) (by omega)
def zr0 (P:Dg) (h i:Nat) (m:ByteArray) (B:Nat→Dg):Dg:=rtL i B 0 h (ztl fun j=>zdt i j (dgN (msgF P i m) j+1) (15 - dgN (msgF P i m) j) (B j))
theorem zkb (k:Nat) (P:Dg) {m s:ByteArray} (hm:m.size≤4000) {h i:Nat} (hh:h≤6) (hi:i<2 ^ h) (hs:s.size=1+16*(35+h)) {r:List Int} (hr:bytL s=2*(i:Int) :: r) :
    zbf (k+100) P (h:Int) m s=some (if zr0 P h i m (fun j=>blkA (bytL s) (1+16*j))=P then ((i:Int),0) else (0,8)):=by
  have hp:=zf5 hh;have hi64:i<64:=by omega
  have hM:=zqr P i m;unfold zbf;rw [zh8 _ h hh];simp only [Option.bind_some];rw [if_neg (by omega),if_pos (by omega)];have eg:zex (k+100) (bytL s)=some ((i:Int),1,0):=by rw [hr];exact zuz (k+99) hi64 r
  rw [eg];simp only [Option.bind_some];rw [zvz (k+99) hh hi];simp only [Option.bind_some];rw [if_neg (by simp),if_neg (by omega),if_neg (by omega),if_neg (by omega),yfx (k+99) P hi64 hm];simp only [Option.bind_some];rw [zn7 (k+80) _ hM];simp only [Option.bind_some];rw [yad (k+50) _ (fun j=>zdt i j (dgN (msgF P i m) j+1) (15 - dgN (msgF P i m) j) (blkA (bytL s) (1+16*j))) fun j hj=>?_]
  · simp only [Option.bind_some];have e0:=z7g (k+90) s hh hi64 hs h 0 (k+100) (ztl fun j=>zdt i j (dgN (msgF P i m) j+1) (15 - dgN (msgF P i m) j) (blkA (bytL s) (1+16*j))) (by omega) (by omega);rw [show ((0:Nat):Int)=0 from rfl] at e0;rw [e0];simp only [Option.bind_some];show (if zr0 P h i m (fun j=>blkA (bytL s) (1+16*j))=P then some ((i:Int),(0:Int)) else some (0,8))=_;split<;>rfl
  · have hd:=z46 hM hj;show zeh (k+50+50) (j:Int) (i:Int) (fun y2=>zbi (k+100) y2 s 1) (digA (msgF P i m))=_;unfold zeh;simp only;rw [z7h _ s (by omega) (by omega)];simp only [Option.bind_some];rw [if_pos (by omega),hd.2];have:=zxa (k+70) hi64 (show j<64 by omega) hd.1 (Nat.le_refl 15) (blkA (bytL s) (1+16*j));rw [show ((15:Nat):Int)=15 from rfl] at this;rw [this];rfl
theorem z0z (k:Nat) (P:Dg) (m:ByteArray) {s:ByteArray} {h i:Nat} (hh:h≤6) (hi:i<2 ^ h) (hs:1+16*(35+h)<s.size) (hs2:s.size≤1000000000) {r:List Int} (hr:bytL s=2*(i:Int) :: r):zbf (k+100) P (h:Int) m s=some (0,6):=by
  have hp:=zf5 hh;unfold zbf;rw [zh8 _ h hh];simp only [Option.bind_some];rw [if_neg (by omega),if_pos (by omega)];have eg:zex (k+100) (bytL s)=some ((i:Int),1,0):=by rw [hr];exact zuz (k+99) (by omega) r
  rw [eg];simp only [Option.bind_some];rw [zvz (k+99) hh hi];simp only [Option.bind_some];rw [if_neg (by simp),if_neg (by omega),if_neg (by omega),if_pos (by omega)]
theorem z5o (f:Nat→List Int):∀ (n i j:Nat),(∀ j,i≤j→j<i+n→(f j).length=16)→j<n→((catL f i n).drop (16*j)).take 16=f (i+j)
  |n+1,i,0,h,hj=>by
    show ((f i++catL f (i+1) n).drop 0).take 16=_;rw [List.drop_zero,List.take_append_of_le_length (by rw [h i (by omega) (by omega)];omega),List.take_of_length_le (by rw [h i (by omega) (by omega)];omega),Nat.add_zero]
  |n+1,i,j+1,h,hj=>by
    have hl:=h i (by omega) (by omega);show ((f i++catL f (i+1) n).drop (16*(j+1))).take 16=_;rw [show 16*(j+1)=(f i).length+16*j by rw [hl];omega,List.drop_append,List.drop_of_length_le (by omega),List.nil_append,Nat.add_sub_cancel_left,z5o f n (i+1) j (fun q h1 h2=>h q (by omega) (by omega)) (by omega),show i+1+j=i+(j+1) by omega]
theorem z8l (B:Nat→Dg) (i n:Nat):(sgL B i n).length=1+16*n:=by
  unfold sgL;rw [List.length_append,zq1 _ 16 _ _ fun j _ _=>(B j).h];rfl
theorem yhn {B:Nat→Dg} (hB:∀ j,∀ x∈(B j).l,0≤x∧x<256) {i:Nat} (hi:i<64):∀ n,∀ x∈sgL B i n,0≤x∧x<256:=by
  have key:∀ n j,∀ x∈catL (fun j=>(B j).l) j n,0≤x∧x<256:=by
    intro n
    induction n with
    |zero=>intro j x hx;cases hx
    |succ n ih =>
      intro j x hx;rcases List.mem_append.1 hx with h|h
      · exact hB j x h
      · exact ih _ x h
  intro n x hx;rcases List.mem_append.1 hx with h|h
  · have:x=2*(i:Int):=by simpa using h
    omega
  · exact key n 0 x h
theorem yho (B:Nat→Dg) (i n:Nat) {j:Nat} (hj:j<n):blkA (sgL B i n) (1+16*j)=B j:=by
  apply Ar.ext';rw [ygr (by rw [z8l];omega)];unfold sgL;rw [List.drop_append,List.drop_of_length_le (by simp),List.nil_append,show 1+16*j - [2*(i:Int)].length=16*j by simp,z5o _ _ _ _ (fun q _ _=>(B q).h) hj,Nat.zero_add]
theorem zyd {i:Nat} {B C:Nat→Dg}:∀ (n l:Nat) (v:Dg),(∀ j,l≤j→j<l+n→B (35+j)=C (35+j))→rtL i B l n v=rtL i C l n v
  |0,l,v,h=>rfl
  |n+1,l,v,h=>by
    show rtL i B (l+1) n _=rtL i C (l+1) n _;rw [h l (by omega) (by omega)];exact zyd n (l+1) _ fun j h1 h2=>h j (by omega) (by omega)
theorem zit {P:Dg} {h i:Nat} {m:ByteArray} {B C:Nat→Dg} (hBC:∀ j,j<35+h→B j=C j):zr0 P h i m B=zr0 P h i m C:=by
  unfold zr0;rw [zsh fun j hj=>by rw [hBC j (by omega)]];exact zyd h 0 _ fun j _ h2=>hBC (35+j) (by omega)
theorem z85 (seed:ByteArray) (i:Nat) (D:Ar 16):∀ (n l:Nat),rtL i (sgB seed i D) l n (valF seed l (i / 2 ^ l))=valF seed (l+n) (i / 2 ^ (l+n))
  |0,l=>rfl
  |n+1,l=>by
    have eB:sgB seed i D (35+l)=valF seed l (sib i l):=by
      unfold sgB;rw [if_neg (by omega),show 35+l - 35=l by omega]
    have hd:i / 2 ^ (l+1)=(i / 2 ^ l) / 2:=by rw [Nat.pow_succ,Nat.div_div_eq_div_mul]
    have hj:(if (i / 2 ^ l) % 2=1 then zsk (l+1) (i / 2 ^ (l+1)) (sgB seed i D (35+l)) (valF seed l (i / 2 ^ l)) else zsk (l+1) (i / 2 ^ (l+1)) (valF seed l (i / 2 ^ l)) (sgB seed i D (35+l)))=valF seed (l+1) (i / 2 ^ (l+1)):=by
      rw [eB];show _=zsk (l+1) (i / 2 ^ (l+1)) (valF seed l (2*(i / 2 ^ (l+1)))) (valF seed l (2*(i / 2 ^ (l+1))+1));rw [hd];unfold sib;generalize i / 2 ^ l=q;by_cases hq:q % 2=1
      · rw [if_pos hq,if_neg (by omega),show q - 1=2*(q / 2) by omega,show valF seed l q=valF seed l (2*(q / 2)+1) by rw [show 2*(q / 2)+1=q by omega]]
      · rw [if_neg hq,if_pos (by omega),show valF seed l q=valF seed l (2*(q / 2)) by rw [show 2*(q / 2)=q by omega],show q+1=2*(q / 2)+1 by omega]
    show rtL i (sgB seed i D) (l+1) n (if _ then _ else _)=_;rw [hj,z85 seed i D n (l+1),show l+1+n=l+(n+1) by omega]
theorem z86 (seed:ByteArray) {h i:Nat} (hi:i<2 ^ h) (m:ByteArray):zr0 (valF seed h 0) h i m (sgB seed i (mdF seed h i m))=valF seed h 0:=by
  unfold zr0;have hM:=zqr (valF seed h 0) i m
  have e:ztl (fun j=>zdt i j (dgN (msgF (valF seed h 0) i m) j+1) (15 - dgN (msgF (valF seed h 0) i m) j) (sgB seed i (mdF seed h i m) j))=valF seed 0 (i / 2 ^ 0):=by
    rw [Nat.pow_zero,Nat.div_one,valF.eq_1];unfold lfF;refine zsh fun j hj=>?_;have hd:=z46 hM hj;show zdt i j _ _ (if j<35 then _ else _)=zdt i j 1 15 (zlc seed i j);rw [if_pos hj,show mdF seed h i m=msgF (valF seed h 0) i m from rfl,Nat.add_comm _ 1,zu9,show dgN (msgF (valF seed h 0) i m) j+(15 - dgN (msgF (valF seed h 0) i m) j)=15 by omega]
  rw [e,z85,Nat.zero_add,Nat.div_eq_of_lt hi]
def sigS (seed:ByteArray) (h i:Nat) (m:ByteArray):ByteArray:=strL (sgL (sgB seed i (mdF seed h i m)) i (35+h))
theorem zlj (seed:ByteArray) (h i:Nat) (m:ByteArray):(sigS seed h i m).size=1+16*(35+h):=by
  unfold sigS;rw [zcv,z8l]
theorem zos (seed:ByteArray) (h:Nat) {i:Nat} (hi:i<64) (m:ByteArray):bytL (sigS seed h i m)=sgL (sgB seed i (mdF seed h i m)) i (35+h):=zs8 (yhn (yhp _ _ _) hi _)
theorem z0y (k:Nat) {seed m:ByteArray} (hm:m.size≤4000) {h i:Nat} (hh:h≤6) (hi:i<2 ^ h):zbf (k+100) (valF seed h 0) (h:Int) m (sigS seed h i m)=some ((i:Int),0):=by
  have hp:=zf5 hh;have hb:=zos seed h (show i<64 by omega) m;rw [zkb k (valF seed h 0) hm hh hi (zlj _ _ _ _) (r:=catL (fun j=>(sgB seed i (mdF seed h i m) j).l) 0 (35+h)) (by rw [hb];rfl)];rw [hb,zit (C:=sgB seed i (mdF seed h i m)) fun j hj=>yho _ _ _ hj,z86 seed hi m,if_pos rfl]
theorem z0x (k:Nat) (P:Dg) {seed m:ByteArray} (m2:ByteArray) {more:ByteArray} {h i:Nat} (hh:h≤6) (hi:i<2 ^ h) (hm:0<more.size) (hm2:more.size≤1000):zbf (k+100) P (h:Int) m2 (sigS seed h i m++more)=some (0,6):=by
  have hp:=zf5 hh;have hb:=zos seed h (show i<64 by omega) m;refine z0z k P m2 hh hi (by rw [size_append,zlj];omega) (by rw [size_append,zlj];omega) (r:=catL (fun j=>(sgB seed i (mdF seed h i m) j).l) 0 (35+h)++bytL more) ?_;rw [zs9,hb];rfl
end
section
open Go Go.RowKit
set_option maxRecDepth 100000
theorem yev:Byt (zA 16):=by
  apply ycf;intro x hx;have:=List.eq_of_mem_replicate hx;rw [this];omega
theorem mk2_l:(mkAr 16 [255,16,0,0,0,0,0,0,0,0,0,0,0,0,0,0]).l=[255,16,0,0,0,0,0,0,0,0,0,0,0,0,0,0]:=z35 rfl
theorem yiv:Byt (mkAr 16 [255,16,0,0,0,0,0,0,0,0,0,0,0,0,0,0]):=by
  apply ycf;rw [mk2_l];decide
theorem dz:gx (digA (zA 16)).l 0=0∧gx (digA (zA 16)).l 31=0∧gx (digA (zA 16)).l 32=1∧gx (digA (zA 16)).l 33=14∧gx (digA (zA 16)).l 34=0:=by decide +kernel
theorem dt:gx (digA (mkAr 16 [255,16,0,0,0,0,0,0,0,0,0,0,0,0,0,0])).l 0=15∧gx (digA (mkAr 16 [255,16,0,0,0,0,0,0,0,0,0,0,0,0,0,0])).l 1=15∧gx (digA (mkAr 16 [255,16,0,0,0,0,0,0,0,0,0,0,0,0,0,0])).l 2=1∧gx (digA (mkAr 16 [255,16,0,0,0,0,0,0,0,0,0,0,0,0,0,0])).l 3=0∧gx (digA (mkAr 16 [255,16,0,0,0,0,0,0,0,0,0,0,0,0,0,0])).l 32=1∧gx (digA (mkAr 16 [255,16,0,0,0,0,0,0,0,0,0,0,0,0,0,0])).l 33=12∧gx (digA (mkAr 16 [255,16,0,0,0,0,0,0,0,0,0,0,0,0,0,0])).l 34=1:=by decide +kernel
theorem sz_ok {s x:ByteArray} (h1:s.size=1+16*(35+0)) (h2:x.size=1):(s,(0:Int)).1.size+x.size≤9223372036854775807:=by
  show s.size+x.size≤_;omega
theorem yhs (k:Nat):zli (k+100)=some true:=by
  obtain ⟨z1,z2,z3,z4,z5⟩:=dz;obtain ⟨t1,t2,t3,t4,t5,t6,t7⟩:=dt;have s1:(⟨#[115]⟩:ByteArray).size≤4000:=by decide
  have s2:(⟨#[109]⟩:ByteArray).size≤4000:=by decide
  have s3:(⟨#[120]⟩:ByteArray).size=1:=rfl;have d1:=zn7 (k+80) _ yev;have d2:=zn7 (k+80) _ yiv;rw [show k+80+20=k+100 by omega] at d1 d2;unfold zli;generalize (⟨#[115]⟩:ByteArray)=A at *;generalize (⟨#[109]⟩:ByteArray)=M at *;generalize (⟨#[120]⟩:ByteArray)=X at *;generalize digA (zA 16)=D1 at *;generalize digA (mkAr 16 [255,16,0,0,0,0,0,0,0,0,0,0,0,0,0,0])=D2 at *;generalize mkAr 16 [255,16,0,0,0,0,0,0,0,0,0,0,0,0,0,0]=E2 at *;have p1:=z9i (k+100) A (h:=7) (by omega);have g1:=z6d (k+100) A M (h:=1) (by omega) (i:=2) (.inr (by rw [show ((2 ^ 1:Nat):Int)=2 from rfl];omega));have p2:=zyi k s1 (h:=0) (by omega);have g2:=z8h k s1 s2 (h:=0) (i:=0) (by omega) (Nat.lt_of_lt_of_le Nat.zero_lt_one (Nat.le_refl _));have v1:=z0y k (seed:=A) s2 (h:=0) (i:=0) (by omega) (Nat.lt_of_lt_of_le Nat.zero_lt_one (Nat.le_refl _));have v2:=z0x k (valF A 0 0) (seed:=A) (m:=M) M (more:=X) (h:=0) (i:=0) (by omega) (Nat.lt_of_lt_of_le Nat.zero_lt_one (Nat.le_refl _)) (by rw [s3];omega) (by rw [s3];omega);have c3:=zh8 (k+100) 3 (by omega);have z23:=zvz (k+99) (h:=2) (i:=3) (by omega) (by decide);have z00:=zvz (k+99) (h:=0) (i:=0) (by omega) (by decide);have hz:=zlj A 0 0 M;rw [show strL (sgL (sgB A 0 (mdF A 0 0 M)) 0 (35+0))=sigS A 0 0 M by unfold sigS;with_reducible rfl] at g2;generalize sigS A 0 0 M=S at *;generalize valF A 0 0=V at *;rw [show ((0:Nat):Int)=0 from rfl] at p2 g2 v1 v2 z00;rw [show ((1:Nat):Int)=1 from rfl] at g1;rw [show ((3:Nat):Int)=3 from rfl,show ((2 ^ 3:Nat):Int)=8 from rfl] at c3;rw [show ((3:Nat):Int)=3 from rfl,show ((2:Nat):Int)=2 from rfl,show (1+16*(35+2):Int)=593 from rfl] at z23;rw [show (1+16*(35+0):Int)=561 from rfl] at z00;rw [d1,Option.bind_some,d2,Option.bind_some,p1,Option.bind_some,g1,Option.bind_some,p2,Option.bind_some,g2,Option.bind_some];have hq:=sz_ok hz s3;rw [v1,Option.bind_some,if_pos hq,v2,Option.bind_some];rw [if_neg (by simp),if_neg (by simp),if_neg (by simp),if_neg (by simp),if_neg (by simp),Option.bind_some];rw [if_neg (by decide),if_pos (by omega),if_pos z1,if_pos (by omega),if_pos z2,if_pos (by omega),if_pos z3,if_pos (by omega),if_pos z4,if_pos (by omega),if_pos z5,if_pos t1,if_pos (by omega),if_pos t2,if_pos (by omega),if_pos t3,if_pos (by omega),if_pos t4,if_pos t5,if_pos t6];rw [Option.bind_some];rw [if_pos (decide_eq_true t7)];rw [if_pos (by rfl),c3];rw [Option.bind_some];rw [if_pos (by rfl),z23];rw [Option.bind_some];rw [if_pos (by rfl),z00];rw [Option.bind_some];rw [hz];rfl
end
section
open Go Go.RowKit
set_option maxRecDepth 100000
def zcj (k:Nat) (s_:ByteArray):Nat→Int→(Ar 16)→Option (Ar 16)
 |0,_,_=>none
 |m+1,i,x=>(if i<16 then (if (0:Int)≤i∧i<(s_.size:Int) then (if (0:Int)≤i∧i<(16:Int) then zcj k s_ m (IntKind.i64.wrap (i+1)) (x.set i ((bx s_ i).toNat:Int)) else none) else none) else some x)
def zg4 (k:Nat) (s_:ByteArray):Option (Ar 16):=((zcj k s_ k 0 (zA 16):Option (Ar 16)).bind fun s_2=>some s_2)
set_option maxHeartbeats 8000000 in
theorem zmw (ax:Axs) (hx:Pl ax) (k:Nat) (s_:ByteArray) (v:Ar 16) (H:zg4 k s_=some v):Pure Tryd.prog (EE ax) GLs 44 [.str s_] (.agg (v.l.map (T.int .u8))):=by
 rw [zg4] at H;refine en [.cell 2 23] 15 [0] (hx.no _ (by decide)) (fn44 ax) ?_;intro h hh;repeat apply TW.seq
 refine rk [0,2] [] hh ?_;clear hh h;intro h hh;repeat apply TW.seq
 refine rk [0,2,3] [] hh ?_;clear hh h;intro h hh;repeat apply TW.seq
 refine rk [0,2,3,4] [] hh ?_;clear hh h;intro h hh;obtain ⟨s_2,H1,H⟩:=zal H;repeat apply TW.seq
 refine cu [2,3] 2 (fun h bs=>(h 2=.ptr 0 0 16∧h 3=.ptr 1 0 16)∧bs=[.cells true 16 ((zA 16).l.map (T.int .u8)),.cells true 16 (s_2.l.map (T.int .u8))]) ?_ ?_
 ·skip;repeat apply TW.seq
  apply TW.block;repeat apply TW.seq
  refine TW.loopT [0,2,3,4] (fun m h bs=>∃ (i:Int) (x:Ar 16),zcj k s_ m i x=some s_2∧(h 0=.str s_∧h 2=.ptr 0 0 16∧h 3=.ptr 1 0 16∧h 4=.int .i64 i)∧bs=[.cells true 16 ((zA 16).l.map (T.int .u8)),.cells true 16 (x.l.map (T.int .u8))]) ?_ k _ _ ?_;rotate_left
  ·exact ⟨0,(zA 16),H1,kq hh,rfl⟩
  clear hh h H1;rintro m h bs ⟨i,x,H1,hh,rfl⟩;rcases m with _|m
  ·rw [zcj] at H1;cases H1
  rw [zcj] at H1;repeat apply TW.seq
  refine rk [0,2,3,4,6] [] hh ?_;clear hh h;intro h hh;rcases isp H1 with ⟨c1,H1⟩|⟨c1,H1⟩;rotate_left
  ·skip;repeat apply TW.seq
   refine cf (f2 hh (decide_eq_false c1)) ?_;refine xk ?_;cases H1;exact ce hh ⟨kq hh,rfl⟩
  repeat apply TW.seq
  refine ct (f2 hh (decide_eq_true c1)) ?_;repeat apply TW.seq
  refine sk ?_;repeat apply TW.seq
  apply TW.block;obtain ⟨g2,H1⟩:=isg H1;obtain ⟨g3,H1⟩:=isg H1;repeat apply TW.seq
  refine rk [0,2,3,4] [] (f3 hh (yiw g2) (zxi (k:=.u8) x ((bx s_ i).toNat:Int) g3)) ?_;clear hh h;intro h hh;repeat apply TW.seq
  refine rk [0,2,3,4] [] hh ?_;clear hh h;intro h hh;exact rd m hh ⟨(IntKind.i64.wrap (i+1)),(x.set i ((bx s_ i).toNat:Int)),H1,kq hh,rfl⟩
 clear hh h;rintro h bs ⟨hh,rfl⟩;repeat apply TW.seq
 refine rk [2] [] hh ?_;clear hh h;intro h hh;cases H;exact rtc hh
def zdx (k:Nat) (d:Ar 16):Nat→Int→(List Int)→Nat→Option (List Int×Nat)
 |0,_,_,_=>none
 |m+1,i,l,n=>(if i<16 then (if (0:Int)≤i∧i<(16:Int) then (if (n+1)*2≤1000000000 then zdx k d m (IntKind.i64.wrap (i+1)) (l++[gx d.l i]) (n+1) else none) else none) else some (l,n))
def zgp (k:Nat) (d:Ar 16):Option ByteArray:=((zdx k d k 0 [] 0:Option (List Int×Nat)).bind fun s_=>(if s_.1.length=s_.2 then some (strL s_.1) else none))
set_option maxHeartbeats 8000000 in
theorem zi8 (ax:Axs) (hx:Pl ax) (k:Nat) (d:Ar 16) (v:ByteArray) (H:zgp k d=some v):Pure Tryd.prog (EE ax) GLs 33 [.agg (d.l.map (T.int .u8))] (.str v):=by
 rw [zgp] at H;refine en [.tmp 2] 17 [0] (hx.no _ (by decide)) (fn33 ax) ?_;intro h hh;repeat apply TW.seq
 refine rk [1] [] hh ?_;clear hh h;intro h hh;repeat apply TW.seq
 refine rk [1,3] [] hh ?_;clear hh h;intro h hh;refine vk 3 1 [1,3] hh ?_;clear hh h;intro h hh;repeat apply TW.seq
 refine rk [1,3,4] [] hh ?_;clear hh h;intro h hh;obtain ⟨s_,H1,H⟩:=zal H;repeat apply TW.seq
 refine cu [3] 2 (fun h bs=>(h 3=.arr 1 1 0 s_.2 s_.2 s_.2)∧bs=[.cells true 16 (d.l.map (T.int .u8)),.cells false s_.2 (s_.1.map (T.int .u8))]) ?_ ?_
 ·skip;repeat apply TW.seq
  apply TW.block;repeat apply TW.seq
  refine TW.loopT [1,3,4] (fun m h bs=>∃ (i:Int) (l:List Int) (n:Nat),zdx k d m i l n=some s_∧(h 1=.ptr 0 0 16∧h 3=.arr 1 1 0 n n n∧h 4=.int .i64 i)∧bs=[.cells true 16 (d.l.map (T.int .u8)),.cells false n (l.map (T.int .u8))]) ?_ k _ _ ?_;rotate_left
  ·exact ⟨0,[],0,H1,kq hh,rfl⟩
  clear hh h H1;rintro m h bs ⟨i,l,n,H1,hh,rfl⟩;rcases m with _|m
  ·rw [zdx] at H1;cases H1
  rw [zdx] at H1;repeat apply TW.seq
  refine rk [1,3,4,6] [] hh ?_;clear hh h;intro h hh;rcases isp H1 with ⟨c1,H1⟩|⟨c1,H1⟩;rotate_left
  ·skip;repeat apply TW.seq
   refine cf (f2 hh (decide_eq_false c1)) ?_;refine xk ?_;cases H1;exact ce hh ⟨kq hh,rfl⟩
  repeat apply TW.seq
  refine ct (f2 hh (decide_eq_true c1)) ?_;repeat apply TW.seq
  refine sk ?_;repeat apply TW.seq
  apply TW.block;obtain ⟨g2,H1⟩:=isg H1;obtain ⟨g3,H1⟩:=isg H1;repeat apply TW.seq
  refine rg [] [] [.cells true 16 (d.l.map (T.int .u8)),.cells false (n+1) ((l++[gx d.l i]).map (T.int .u8))] (fun h=>h 1=.ptr 0 0 16∧h 3=.arr 1 1 0 (n+1) (n+1) (n+1)∧h 4=.int .i64 i) (f2 hh (arIx d g2)) trivial ?_;clear hh h;intro h hh;repeat apply TW.seq
  refine rk [1,3,4] [] hh ?_;clear hh h;intro h hh;exact rd m hh ⟨(IntKind.i64.wrap (i+1)),(l++[gx d.l i]),(n+1),H1,kq hh,rfl⟩
 clear hh h;rintro h bs ⟨hh,rfl⟩;obtain ⟨g4,H⟩:=isg H;repeat apply TW.seq
 refine rk [2] [] (f3 hh (@tStr.eq_1) (f3 (isu8 ax) (@tSrc.eq_4) (zre (k:=.u8) g4))) ?_;clear hh h;intro h hh;cases H;exact rt hh
def zd2 (k:Nat)  : Nat→Int→(List Int)→Nat→Option (Int×List Int×Nat)
 |0,_,_,_=>none
 |m+1,z,l,n2=>(if 128≤z then (if (0:Int)≤z∧0<128 then (if (n2+1)*2≤1000000000 then zd2 k  m (IntKind.u64.wrap (z / 128)) (l++[IntKind.u8.wrap ((IntKind.u8.wrap (z % 128))+128)]) (n2+1) else none) else none) else some (z,l,n2))
def zhc (k:Nat) (n:Int):Option (List Int):=(((if n<0 then some (IntKind.u64.wrap ((IntKind.u64.wrap ((IntKind.u64.wrap (IntKind.i64.wrap ((-1) - n)))*2))+1)) else some (IntKind.u64.wrap ((IntKind.u64.wrap (n))*2))):Option Int).bind fun s_=>((zd2 k  k s_ [] 0:Option (Int×List Int×Nat)).bind fun s_2=>(if (s_2.2.2+1)*2≤1000000000 then (if (s_2.2.1++[IntKind.u8.wrap (s_2.1)]).length=s_2.2.2+1 then some (s_2.2.1++[IntKind.u8.wrap (s_2.1)]) else none) else none)))
set_option maxHeartbeats 8000000 in
theorem zkj (ax:Axs) (hx:Pl ax) (k:Nat) (n:Int) (v:List Int) (H:zhc k n=some v):Pure Tryd.prog (EE ax) GLs 24 [.int .i64 n] (byts v):=by
 rw [zhc] at H;refine en [.tmp 2] 31 [0] (hx.no _ (by decide)) (fn24 ax) ?_;intro h hh;repeat apply TW.seq
 refine rk [0] [] hh ?_;clear hh h;intro h hh;repeat apply TW.seq
 refine rk [0,3] [] hh ?_;clear hh h;intro h hh;repeat apply TW.seq
 refine rk [0,3,9] [] hh ?_;clear hh h;intro h hh;obtain ⟨s_,H1,H⟩:=zal H;repeat apply TW.seq
 refine cu [3] 0 (fun h bs=>(h 3=.int .u64 s_)∧bs=[]) ?_ ?_
 ·skip;rcases isp H1 with ⟨c1,H1⟩|⟨c1,H1⟩;rotate_left
  ·skip;repeat apply TW.seq
   refine cf (f2 hh (decide_eq_false c1)) ?_;repeat apply TW.seq
   refine sk ?_;cases H1;exact ce hh ⟨kq hh,rfl⟩
  repeat apply TW.seq
  refine ct (f2 hh (decide_eq_true c1)) ?_;repeat apply TW.seq
  refine rk [3] [] hh ?_;clear hh h;intro h hh;cases H1;exact ce hh ⟨kq hh,rfl⟩
 clear hh h;rintro h bs ⟨hh,rfl⟩;repeat apply TW.seq
 refine rk [3,4] [] hh ?_;clear hh h;intro h hh;refine vk 4 1 [3,4] hh ?_;clear hh h;intro h hh;obtain ⟨s_2,H1,H⟩:=zal H;repeat apply TW.seq
 refine cu [3,4] 1 (fun h bs=>(h 3=.int .u64 s_2.1∧h 4=.arr 0 1 0 s_2.2.2 s_2.2.2 s_2.2.2)∧bs=[.cells false s_2.2.2 (s_2.2.1.map (T.int .u8))]) ?_ ?_
 ·skip;repeat apply TW.seq
  apply TW.block;repeat apply TW.seq
  refine TW.loopT [3,4] (fun m h bs=>∃ (z:Int) (l:List Int) (n2:Nat),zd2 k  m z l n2=some s_2∧(h 3=.int .u64 z∧h 4=.arr 0 1 0 n2 n2 n2)∧bs=[.cells false n2 (l.map (T.int .u8))]) ?_ k _ _ ?_;rotate_left
  ·exact ⟨s_,[],0,H1,kq hh,rfl⟩
  clear hh h H1;rintro m h bs ⟨z,l,n2,H1,hh,rfl⟩;rcases m with _|m
  ·rw [zd2] at H1;cases H1
  rw [zd2] at H1;repeat apply TW.seq
  refine rk [3,4,16] [] hh ?_;clear hh h;intro h hh;rcases isp H1 with ⟨c2,H1⟩|⟨c2,H1⟩;rotate_left
  ·skip;repeat apply TW.seq
   refine cf (f2 hh (decide_eq_false c2)) ?_;refine xk ?_;cases H1;exact ce hh ⟨kq hh,rfl⟩
  repeat apply TW.seq
  refine ct (f2 hh (decide_eq_true c2)) ?_;repeat apply TW.seq
  refine sk ?_;repeat apply TW.seq
  apply TW.block;obtain ⟨g3,H1⟩:=isg H1;obtain ⟨g4,H1⟩:=isg H1;repeat apply TW.seq
  refine rg [] [] [.cells false (n2+1) ((l++[IntKind.u8.wrap ((IntKind.u8.wrap (z % 128))+128)]).map (T.int .u8))] (fun h=>h 3=.int .u64 z∧h 4=.arr 0 1 0 (n2+1) (n2+1) (n2+1)) hh trivial ?_;clear hh h;intro h hh;repeat apply TW.seq
  refine rk [3,4] [] hh ?_;clear hh h;intro h hh;exact rd m hh ⟨(IntKind.u64.wrap (z / 128)),(l++[IntKind.u8.wrap ((IntKind.u8.wrap (z % 128))+128)]),(n2+1),H1,kq hh,rfl⟩
 clear hh h;rintro h bs ⟨hh,rfl⟩;obtain ⟨g5,H⟩:=isg H;repeat apply TW.seq
 refine rg [] [] [.cells false (s_2.2.2+1) ((s_2.2.1++[IntKind.u8.wrap (s_2.1)]).map (T.int .u8))] (fun h=>h 2=.arr 0 1 0 (s_2.2.2+1) (s_2.2.2+1) (s_2.2.2+1)) hh trivial ?_;clear hh h;intro h hh;obtain ⟨g6,H⟩:=isg H;refine TW.freeze 2 (b:=0) (e:=1) (off:=0) (len:=(s_2.2.2+1)) (cap:=(s_2.2.2+1)) (M:=(s_2.2.2+1)) ((s_2.2.1++[IntKind.u8.wrap (s_2.1)]).map (T.int .u8)) (kq hh) (by rfl) (by omega) (by omega) (by rw [List.drop_zero,Nat.mul_one,zfu (fun _=>rfl),List.take_of_length_le (by rw [List.length_map];omega)]) (fun t ht=>by obtain ⟨x,_,rfl⟩:=List.mem_map.1 ht;first|rfl|exact zhx _ | (rw [List.length_map];rfl)) (by rw [List.length_map];exact g6) (by omega) ?_;rw [zhi _ _ _ (by simp only [lzA]<;>omega)];simp only [scA];refine gk [2] hh ?_;clear hh h;intro h hh;cases H;exact rt hh
def zfg (k:Nat)  : Nat→Int→(List Int)→Nat→Option (Int×List Int×Nat)
 |0,_,_,_=>none
 |m+1,z,l,n2=>(if 128≤z then (if (0:Int)≤z∧0<128 then (if (n2+1)*2≤1000000000 then zfg k  m (IntKind.u64.wrap (z / 128)) (l++[IntKind.u8.wrap ((IntKind.u8.wrap (z % 128))+128)]) (n2+1) else none) else none) else some (z,l,n2))
def zjy (k:Nat) (n:Int):Option (List Int×Nat):=(((if n<0 then some (IntKind.u64.wrap ((IntKind.u64.wrap ((IntKind.u64.wrap (IntKind.i64.wrap ((-1) - n)))*2))+1)) else some (IntKind.u64.wrap ((IntKind.u64.wrap (n))*2))):Option Int).bind fun s_=>((zfg k  k s_ [] 0:Option (Int×List Int×Nat)).bind fun s_2=>(if (s_2.2.2+1)*2≤1000000000 then some (s_2.2.1++[IntKind.u8.wrap (s_2.1)],s_2.2.2+1) else none)))
set_option maxHeartbeats 8000000 in
theorem zvy (ax:Axs) (hx:Pl ax) (k:Nat) (n:Int) (v:List Int×Nat) (H:zjy k n=some v):Call Tryd.prog (EE ax) GLs 24 [.int .i64 n] (stL []) (tupT [.arr 0 1 0 v.2 v.2 v.2]) (stL [.cells false v.2 (v.1.map (T.int .u8))]):=by
 rw [zjy] at H;refine enBr [.tmp 2] 31 [0] (hx.no _ (by decide)) (fn24 ax) ?_;intro h hh;repeat apply TW.seq
 refine rk [0] [] hh ?_;clear hh h;intro h hh;repeat apply TW.seq
 refine rk [0,3] [] hh ?_;clear hh h;intro h hh;repeat apply TW.seq
 refine rk [0,3,9] [] hh ?_;clear hh h;intro h hh;obtain ⟨s_,H1,H⟩:=zal H;repeat apply TW.seq
 refine cu [3] 0 (fun h bs=>(h 3=.int .u64 s_)∧bs=[]) ?_ ?_
 ·skip;rcases isp H1 with ⟨c1,H1⟩|⟨c1,H1⟩;rotate_left
  ·skip;repeat apply TW.seq
   refine cf (f2 hh (decide_eq_false c1)) ?_;repeat apply TW.seq
   refine sk ?_;cases H1;exact ce hh ⟨kq hh,rfl⟩
  repeat apply TW.seq
  refine ct (f2 hh (decide_eq_true c1)) ?_;repeat apply TW.seq
  refine rk [3] [] hh ?_;clear hh h;intro h hh;cases H1;exact ce hh ⟨kq hh,rfl⟩
 clear hh h;rintro h bs ⟨hh,rfl⟩;repeat apply TW.seq
 refine rk [3,4] [] hh ?_;clear hh h;intro h hh;refine vk 4 1 [3,4] hh ?_;clear hh h;intro h hh;obtain ⟨s_2,H1,H⟩:=zal H;repeat apply TW.seq
 refine cu [3,4] 1 (fun h bs=>(h 3=.int .u64 s_2.1∧h 4=.arr 0 1 0 s_2.2.2 s_2.2.2 s_2.2.2)∧bs=[.cells false s_2.2.2 (s_2.2.1.map (T.int .u8))]) ?_ ?_
 ·skip;repeat apply TW.seq
  apply TW.block;repeat apply TW.seq
  refine TW.loopT [3,4] (fun m h bs=>∃ (z:Int) (l:List Int) (n2:Nat),zfg k  m z l n2=some s_2∧(h 3=.int .u64 z∧h 4=.arr 0 1 0 n2 n2 n2)∧bs=[.cells false n2 (l.map (T.int .u8))]) ?_ k _ _ ?_;rotate_left
  ·exact ⟨s_,[],0,H1,kq hh,rfl⟩
  clear hh h H1;rintro m h bs ⟨z,l,n2,H1,hh,rfl⟩;rcases m with _|m
  ·rw [zfg] at H1;cases H1
  rw [zfg] at H1;repeat apply TW.seq
  refine rk [3,4,16] [] hh ?_;clear hh h;intro h hh;rcases isp H1 with ⟨c2,H1⟩|⟨c2,H1⟩;rotate_left
  ·skip;repeat apply TW.seq
   refine cf (f2 hh (decide_eq_false c2)) ?_;refine xk ?_;cases H1;exact ce hh ⟨kq hh,rfl⟩
  repeat apply TW.seq
  refine ct (f2 hh (decide_eq_true c2)) ?_;repeat apply TW.seq
  refine sk ?_;repeat apply TW.seq
  apply TW.block;obtain ⟨g3,H1⟩:=isg H1;obtain ⟨g4,H1⟩:=isg H1;repeat apply TW.seq
  refine rg [] [] [.cells false (n2+1) ((l++[IntKind.u8.wrap ((IntKind.u8.wrap (z % 128))+128)]).map (T.int .u8))] (fun h=>h 3=.int .u64 z∧h 4=.arr 0 1 0 (n2+1) (n2+1) (n2+1)) hh trivial ?_;clear hh h;intro h hh;repeat apply TW.seq
  refine rk [3,4] [] hh ?_;clear hh h;intro h hh;exact rd m hh ⟨(IntKind.u64.wrap (z / 128)),(l++[IntKind.u8.wrap ((IntKind.u8.wrap (z % 128))+128)]),(n2+1),H1,kq hh,rfl⟩
 clear hh h;rintro h bs ⟨hh,rfl⟩;obtain ⟨g5,H⟩:=isg H;repeat apply TW.seq
 refine rg [] [] [.cells false (s_2.2.2+1) ((s_2.2.1++[IntKind.u8.wrap (s_2.1)]).map (T.int .u8))] (fun h=>h 2=.arr 0 1 0 (s_2.2.2+1) (s_2.2.2+1) (s_2.2.2+1)) hh trivial ?_;clear hh h;intro h hh;cases H;exact rtB hh
def zc7 (k:Nat) (l:List Int):Nat→Int→(List Int)→Nat→Option (List Int×Nat)
 |0,_,_,_=>none
 |m+1,k_,l2,n=>(if k_<(l.length:Int) then (if (0:Int)≤k_∧k_<(l.length:Int) then ((zhc k (gx l k_)).bind fun rInt=>(if (n+rInt.length)*2≤1000000000 then (if rInt.length=0 then zc7 k l m (IntKind.i64.wrap (k_+1)) l2 n else zc7 k l m (IntKind.i64.wrap (k_+1)) (l2++rInt) (n+rInt.length)) else none)) else none) else some (l2,n))
def zhk (k:Nat) (l:List Int):Option (List Int):=((zjy k (l.length:Int)).bind fun rb=>((zc7 k l k 0 rb.1 rb.2:Option (List Int×Nat)).bind fun s_=>(if s_.1.length=s_.2 then some s_.1 else none)))
set_option maxHeartbeats 8000000 in
theorem zpn (ax:Axs) (hx:Pl ax) (k:Nat) (l:List Int) (v:List Int) (H:zhk k l=some v):Pure Tryd.prog (EE ax) GLs 50 [ints l] (byts v):=by
 rw [zhk] at H;refine en [.tmp 2] 22 [0] (hx.no _ (by decide)) (fn50 ax) ?_;intro h hh;repeat apply TW.seq
 refine rk [0] [] hh ?_;clear hh h;intro h hh;obtain ⟨rb,e1,H⟩:=zal H;repeat apply TW.seq
 refine rkc [0,3] [] [(.arr 0 1 0 rb.2 rb.2 rb.2,stL [.cells false rb.2 (rb.1.map (T.int .u8))])] hh ?_ ?_
 ·exact ⟨car [0] (zvy ax hx k (l.length:Int) rb e1),trivial⟩
 clear hh h;intro h hh;repeat apply TW.seq
 refine rk [0,3,4] [] hh ?_;clear hh h;intro h hh;obtain ⟨s_,H1,H⟩:=zal H;repeat apply TW.seq
 refine cu [3] 1 (fun h bs=>(h 3=.arr 0 1 0 s_.2 s_.2 s_.2)∧bs=[.cells false s_.2 (s_.1.map (T.int .u8))]) ?_ ?_
 ·skip;repeat apply TW.seq
  apply TW.block;repeat apply TW.seq
  refine TW.loopT [0,3,4] (fun m h bs=>∃ (k_:Int) (l2:List Int) (n:Nat),zc7 k l m k_ l2 n=some s_∧(h 0=ints l∧h 3=.arr 0 1 0 n n n∧h 4=.int .i64 k_)∧bs=[.cells false n (l2.map (T.int .u8))]) ?_ k _ _ ?_;rotate_left
  ·exact ⟨0,rb.1,rb.2,H1,kq hh,rfl⟩
  clear hh h H1;rintro m h bs ⟨k_,l2,n,H1,hh,rfl⟩;rcases m with _|m
  ·rw [zc7] at H1;cases H1
  rw [zc7] at H1;repeat apply TW.seq
  refine rk [0,3,4,11] [] hh ?_;clear hh h;intro h hh;rcases isp H1 with ⟨c2,H1⟩|⟨c2,H1⟩;rotate_left
  ·skip;repeat apply TW.seq
   refine cf (f2 hh (decide_eq_false c2)) ?_;refine xk ?_;cases H1;exact ce hh ⟨kq hh,rfl⟩
  repeat apply TW.seq
  refine ct (f2 hh (decide_eq_true c2)) ?_;repeat apply TW.seq
  refine sk ?_;repeat apply TW.seq
  apply TW.block;obtain ⟨g3,H1⟩:=isg H1;obtain ⟨rInt,e4,H1⟩:=zal H1;obtain ⟨g5,H1⟩:=isg H1;rcases isp H1 with ⟨c6,H1⟩|⟨c6,H1⟩;rotate_left
  ·skip;repeat apply TW.seq
   refine rg [] [(byts rInt,stL [.cells false n (l2.map (T.int .u8))])] [.cells false (n+rInt.length) ((l2++rInt).map (T.int .u8))] (fun h=>h 0=ints l∧h 3=.arr 0 1 0 (n+rInt.length) (n+rInt.length) (n+rInt.length)∧h 4=.int .i64 k_) (f2 hh (zgu g3)) ?_ ?_
   ·exact ⟨za1.call ((zkj ax hx k (gx l k_) rInt e4 ).call _),trivial⟩
   clear hh h;intro h hh;repeat apply TW.seq
   refine rk [0,3,4] [] hh ?_;clear hh h;intro h hh;exact rd m hh ⟨(IntKind.i64.wrap (k_+1)),(l2++rInt),(n+rInt.length),H1,kq hh,rfl⟩
  repeat apply TW.seq
  refine rg [] [(byts rInt,stL [.cells false n (l2.map (T.int .u8))])] [.cells false n (l2.map (T.int .u8))] (fun h=>h 0=ints l∧h 3=.arr 0 1 0 n n n∧h 4=.int .i64 k_) (f3 hh c6 (zgu g3)) ?_ ?_
  ·exact ⟨za1.call ((zkj ax hx k (gx l k_) rInt e4 ).call _),trivial⟩
  clear hh h;intro h hh;repeat apply TW.seq
  refine rk [0,3,4] [] (f2 hh c6) ?_;clear hh h;intro h hh;exact rd m hh ⟨(IntKind.i64.wrap (k_+1)),l2,n,H1,kq hh,rfl⟩
 clear hh h;rintro h bs ⟨hh,rfl⟩;repeat apply TW.seq
 refine rk [2] [] hh ?_;clear hh h;intro h hh;obtain ⟨g7,H⟩:=isg H;refine TW.freeze 2 (b:=0) (e:=1) (off:=0) (len:=s_.2) (cap:=s_.2) (M:=s_.2) (s_.1.map (T.int .u8)) (kq hh) (by rfl) (by omega) (by omega) (by rw [List.drop_zero,Nat.mul_one,zfu (fun _=>rfl),List.take_of_length_le (by rw [List.length_map];omega)]) (fun t ht=>by obtain ⟨x,_,rfl⟩:=List.mem_map.1 ht;first|rfl|exact zhx _ | (rw [List.length_map];rfl)) (by rw [List.length_map];exact g7) (by omega) ?_;rw [zhi _ _ _ (by simp only [lzA]<;>omega)];simp only [scA];refine gk [2] hh ?_;clear hh h;intro h hh;cases H;exact rt hh
end
section
open Go Go.RowKit
set_option maxRecDepth 100000
end
section
open Go Go.RowKit
set_option maxRecDepth 100000
theorem yj1:∀ n:_root_.Fin 64,IntKind.u64.wrap ((IntKind.u64.wrap ((n.val:Nat):Int))*2)=2*((n.val:Nat):Int):=by decide +kernel
theorem zih (k:Nat) {n:Nat} (h:n<64):zhc (k+1) (n:Int)=some [2*(n:Int)]:=by
  unfold zhc;rw [if_neg (by omega),Option.bind_some,yj1 ⟨n,h⟩];simp only;rw [zd2,if_neg (by omega),Option.bind_some];simp only;rw [u8n h,if_pos (by omega),if_pos (by rfl)];rfl
theorem counts (k:Nat) (h:Int):∃ c,zbm (k+20) h=some c∧zff (k+20) h=some c:=by
  by_cases hh:h<0∨6<h
  · exact ⟨0,z5a _ hh,z9f _ hh⟩
  · obtain ⟨n,rfl⟩:∃ n:Nat,h=(n:Int):=⟨h.toNat,by omega⟩;exact ⟨_,zh8 _ n (by omega),zyf k n (by omega)⟩
end
section
open Go Go.RowKit WM
set_option maxRecDepth 100000
def tn (c:UInt8):Int:=(c.toNat:Int)
def bvi (l:List UInt8):List Int:=l.map tn
theorem yiy (l:List UInt8):(bvi l).length=l.length:=List.length_map ..
theorem wu {x:Int} (h:0≤x∧x≤18446744073709551615):IntKind.u64.wrap x=x:=zad h
theorem w8 {x:Int} (h:0≤x∧x≤255):IntKind.u8.wrap x=x:=z4d h
theorem hiB (z:Nat):IntKind.u8.wrap (((BitVec.ofInt IntKind.u8.bits (IntKind.u8.wrap (z:Int)) ||| BitVec.ofInt IntKind.u8.bits 128).toNat:Int))=((UInt8.ofNat (z % 128+128)).toNat:Int):=by
  have h:=por z;unfold vb at h;exact (Value.int.inj h).2
theorem hiR (z:Nat):IntKind.u8.wrap (IntKind.u8.wrap ((z:Int) % 128)+128)=((UInt8.ofNat (z % 128+128)).toNat:Int):=by
  rw [w8 (x:=(z:Int) % 128) (by omega),w8 (by omega),zde (by omega)];omega
theorem yf0 (k:Nat):∀ (m z:Nat) (l:List Int) (c:Nat),(venc z).length≤m→z<18446744073709551616→c+(venc z).length≤2000→l.length=c→∃ (z':Nat) (l':List Int) (c':Nat),zcu k m (z:Int) l c=some ((z':Int),l',c')∧zd2 k m (z:Int) l c=some ((z':Int),l',c')∧z'<128∧l'++[(z':Int)]=l++bvi (venc z)∧c'≤2000∧l'.length=c'
  |0,z,l,c,h1,h2,h3,h4=>absurd (venc_pos z) (by omega)
  |m+1,z,l,c,h1,h2,h3,h4=>by
    by_cases hz:z<128
    · refine ⟨z,l,c,?_,?_,hz,?_,by omega,h4⟩
      · rw [zcu,if_neg (by omega)]
      · rw [zd2,if_neg (by omega)]
      · rw [zkc hz];show _=l++[((UInt8.ofNat z).toNat:Int)];rw [zde (by omega)]
    · rw [zm4 hz,List.length_cons] at h1 h3;obtain ⟨z',l',c',e1,e2,e3,e4,e5,e6⟩:=yf0 k m (z / 128) (l++[((UInt8.ofNat (z % 128+128)).toNat:Int)]) (c+1) (by omega) (by omega) (by omega) (by rw [List.length_append,h4];rfl);refine ⟨z',l',c',?_,?_,e3,?_,e5,e6⟩
      · rw [zcu,if_pos (by omega),if_pos (by omega),if_pos (by omega),hiB,pshr,e1]
      · rw [zd2,if_pos (by omega),if_pos (by omega),if_pos (by omega),hiR,wu (by omega),show (z:Int) / 128=((z / 128:Nat):Int) by omega,e2]
      · rw [e4,zm4 hz,List.append_assoc];rfl
theorem rzig (n:Int) (h1:-9223372036854775808≤n) (h2:n≤9223372036854775807):(if n<0 then some (IntKind.u64.wrap ((IntKind.u64.wrap ((IntKind.u64.wrap (IntKind.i64.wrap ((-1) - n)))*2))+1)) else some (IntKind.u64.wrap ((IntKind.u64.wrap (n))*2)):Option Int)=some ((zig n:Nat):Int):=by
  unfold zig;by_cases h:n<0
  · rw [if_pos h,if_pos h,wi (by omega),wu (x:=-1 - n) (by omega),wu (x:=(-1 - n)*2) (by omega),wu (by omega)];congr 1;omega
  · rw [if_neg h,if_neg h,wu (x:=n) (by omega),wu (by omega)];congr 1;omega
def encI (n:Int):List Int:=bvi (enc n)
theorem yei {n:Int} (h1:-9223372036854775808≤n) (h2:n≤9223372036854775807):(encI n).length≤10:=by
  unfold encI;rw [yiy];exact zo8 h1 h2
theorem z6r {n:Nat} (h:n<64):encI (n:Int)=[2*(n:Int)]:=by
  have e:zig (n:Int)=2*n:=by unfold zig;rw [if_neg (by omega)];omega
  unfold encI enc;rw [e,zkc (by omega)];show [((UInt8.ofNat (2*n)).toNat:Int)]=_;rw [zde (by omega)];rfl
theorem yd9 (k:Nat) (n:Int) (h1:-9223372036854775808≤n) (h2:n≤9223372036854775807):zd8 (k+20) n=some (encI n)∧zhc (k+20) n=some (encI n):=by
  have hl:=zo8 h1 h2;obtain ⟨z',l',c',e1,e2,e3,e4,e5,e6⟩:=yf0 (k+20) (k+20) (zig n) [] 0 (by unfold enc at hl;omega) (zxm h1 h2) (by unfold enc at hl;omega) rfl;rw [List.nil_append] at e4;constructor
  · unfold zd8;rw [if_pos (by omega),if_pos (by omega),pzig n h1 h2,e1];simp only [Option.bind_some];rw [if_pos (by omega),w8 (by omega),if_pos (by rw [List.length_append,e6];rfl),e4];rfl
  · unfold zhc;rw [rzig n h1 h2];simp only [Option.bind_some];rw [e2];simp only [Option.bind_some];rw [if_pos (by omega),w8 (by omega),if_pos (by rw [List.length_append,e6];rfl),e4];rfl
theorem zr1 (k:Nat) {n:Nat} (h:n<64):zjy (k+1) (n:Int)=some ([2*(n:Int)],1):=by
  unfold zjy;rw [if_neg (by omega),wu (x:=(n:Int)) (by omega),wu (by omega)];simp only [Option.bind_some];rw [zfg,if_neg (by omega)];simp only [Option.bind_some];rw [w8 (by omega),if_pos (by omega),show (n:Int)*2=2*n by omega];rfl
-- decoding
end
section
open Go Go.RowKit
set_option maxRecDepth 100000
def zc4 (k:Nat) (i:Int) (j:Int) (to_:Int):Nat→Int→(Ar 16)→Option (Ar 16)
 |0,_,_=>none
 |m+1,k_,x=>(if k_≤to_ then ((zhk k [i,j,k_]).bind fun rInts=>((zgp k x).bind fun rText=>((shOf k 1 [strL rInts,rText]).bind fun rshOf=>zc4 k i j to_ m (IntKind.i64.wrap (k_+1)) rshOf))) else some x)
def zjx (k:Nat) (i:Int) (j:Int) (v_:Ar 16) (from_:Int) (to_:Int):Option (Ar 16):=((zc4 k i j to_ k (IntKind.i64.wrap (from_+1)) v_:Option (Ar 16)).bind fun s_=>some s_)
set_option maxHeartbeats 8000000 in
theorem zvx (ax:Axs) (hx:Pl ax) (k:Nat) (i:Int) (j:Int) (v_:Ar 16) (from_:Int) (to_:Int) (v:Ar 16) (H:zjx k i j v_ from_ to_=some v):Pure Tryd.prog (EE ax) GLs 31 [.int .i64 i,.int .i64 j,.agg (v_.l.map (T.int .u8)),.int .i64 from_,.int .i64 to_] (.agg (v.l.map (T.int .u8))):=by
 rw [zjx] at H;refine en [.cell 10 23] 30 [0,1,2,3,4] (hx.no _ (by decide)) (fn31 ax) ?_;intro h hh;repeat apply TW.seq
 refine rk [0,1,3,4,7,10] [] hh ?_;clear hh h;intro h hh;repeat apply TW.seq
 refine rk [0,1,4,7,10,11] [] hh ?_;clear hh h;intro h hh;obtain ⟨s_,H1,H⟩:=zal H;repeat apply TW.seq
 refine cu [7,10] 2 (fun h bs=>(h 7=.ptr 0 0 16∧h 10=.ptr 1 0 16)∧bs=[.cells true 16 (s_.l.map (T.int .u8)),.cells true 16 ((zA 16).l.map (T.int .u8))]) ?_ ?_
 ·skip;repeat apply TW.seq
  apply TW.block;repeat apply TW.seq
  refine TW.loopT [0,1,4,7,10,11] (fun m h bs=>∃ (k_:Int) (x:Ar 16),zc4 k i j to_ m k_ x=some s_∧(h 0=.int .i64 i∧h 1=.int .i64 j∧h 4=.int .i64 to_∧h 7=.ptr 0 0 16∧h 10=.ptr 1 0 16∧h 11=.int .i64 k_)∧bs=[.cells true 16 (x.l.map (T.int .u8)),.cells true 16 ((zA 16).l.map (T.int .u8))]) ?_ k _ _ ?_;rotate_left
  ·exact ⟨(IntKind.i64.wrap (from_+1)),v_,H1,kq hh,rfl⟩
  clear hh h H1;rintro m h bs ⟨k_,x,H1,hh,rfl⟩;rcases m with _|m
  ·rw [zc4] at H1;cases H1
  rw [zc4] at H1;repeat apply TW.seq
  refine rk [0,1,4,7,10,11,16] [] hh ?_;clear hh h;intro h hh;rcases isp H1 with ⟨c1,H1⟩|⟨c1,H1⟩;rotate_left
  ·skip;repeat apply TW.seq
   refine cf (f2 hh (decide_eq_false c1)) ?_;refine xk ?_;cases H1;exact ce hh ⟨kq hh,rfl⟩
  repeat apply TW.seq
  refine ct (f2 hh (decide_eq_true c1)) ?_;repeat apply TW.seq
  refine sk ?_;repeat apply TW.seq
  apply TW.block;obtain ⟨rInts,e2,H1⟩:=zal H1;obtain ⟨rText,e3,H1⟩:=zal H1;obtain ⟨rshOf,e4,H1⟩:=zal H1;repeat apply TW.seq
  refine dk 8 [0,1,4,7,10,11] [byts rInts,.str rText] [] [(.agg (rshOf.l.map (T.int .u8)),stL [.cells true 16 (x.l.map (T.int .u8)),.cells true 16 ((zA 16).l.map (T.int .u8))])] (f3 hh (@tStr.eq_1) (f2 (isu8 ax) (@tSrc.eq_1))) ?_ ?_ ?_
  ·exact ⟨(zpn ax hx k [i,j,k_] rInts e2 ).call _,(zi8 ax hx k x rText e3 ).call _,trivial⟩
  ·exact ⟨za1.call ((zv5 ax hx k 1 [strL rInts,rText] rshOf e4 ).call _),trivial⟩
  clear hh h;intro h hh;repeat apply TW.seq
  refine rk [0,1,4,7,10,11] [] hh ?_;clear hh h;intro h hh;exact rd m hh ⟨(IntKind.i64.wrap (k_+1)),rshOf,H1,kq hh,rfl⟩
 clear hh h;rintro h bs ⟨hh,rfl⟩;repeat apply TW.seq
 refine rk [10] [] hh ?_;clear hh h;intro h hh;cases H;exact rtc hh
def zjw (k:Nat) (level:Int) (n:Int) (a:Ar 16) (b:Ar 16):Option (Ar 16):=((zhk k [level,n]).bind fun rInts=>((zgp k a).bind fun rText=>((zgp k b).bind fun rText2=>((shOf k 2 [strL rInts,rText,rText2]).bind fun rshOf=>some rshOf))))
set_option maxHeartbeats 8000000 in
theorem zpm (ax:Axs) (hx:Pl ax) (k:Nat) (level:Int) (n:Int) (a:Ar 16) (b:Ar 16) (v:Ar 16) (H:zjw k level n a b=some v):Pure Tryd.prog (EE ax) GLs 46 [.int .i64 level,.int .i64 n,.agg (a.l.map (T.int .u8)),.agg (b.l.map (T.int .u8))] (.agg (v.l.map (T.int .u8))):=by
 rw [zjw] at H;refine en [.cell 8 23] 20 [0,1,2,3] (hx.no _ (by decide)) (fn46 ax) ?_;intro h hh;repeat apply TW.seq
 refine rk [0,1,6,7,8] [] hh ?_;clear hh h;intro h hh;obtain ⟨rInts,e1,H⟩:=zal H;obtain ⟨rText,e2,H⟩:=zal H;obtain ⟨rText2,e3,H⟩:=zal H;obtain ⟨rshOf,e4,H⟩:=zal H;repeat apply TW.seq
 refine dk 9 [8] [byts rInts,.str rText,.str rText2] [] [(.agg (rshOf.l.map (T.int .u8)),stL [.cells true 16 (a.l.map (T.int .u8)),.cells true 16 (b.l.map (T.int .u8)),.cells true 16 ((zA 16).l.map (T.int .u8))])] (f3 hh (@tStr.eq_1) (f2 (isu8 ax) (@tSrc.eq_1))) ?_ ?_ ?_
 ·exact ⟨(zpn ax hx k [level,n] rInts e1 ).call _,(zi8 ax hx k a rText e2 ).call _,(zi8 ax hx k b rText2 e3 ).call _,trivial⟩
 ·exact ⟨za1.call ((zv5 ax hx k 2 [strL rInts,rText,rText2] rshOf e4 ).call _),trivial⟩
 clear hh h;intro h hh;cases H;exact rtc hh
def zgd (k:Nat) (public_:Ar 16) (index:Int) (message:ByteArray):Option (Ar 16):=((zgp k public_).bind fun rText=>((zhc k index).bind fun rInt=>((shOf k 3 [rText,strL rInt,message]).bind fun rshOf=>some rshOf)))
set_option maxHeartbeats 8000000 in
theorem zrk (ax:Axs) (hx:Pl ax) (k:Nat) (public_:Ar 16) (index:Int) (message:ByteArray) (v:Ar 16) (H:zgd k public_ index message=some v):Pure Tryd.prog (EE ax) GLs 21 [.agg (public_.l.map (T.int .u8)),.int .i64 index,.str message] (.agg (v.l.map (T.int .u8))):=by
 rw [zgd] at H;refine en [.cell 6 23] 15 [0,1,2] (hx.no _ (by decide)) (fn21 ax) ?_;intro h hh;repeat apply TW.seq
 refine rk [1,2,3,6] [] hh ?_;clear hh h;intro h hh;obtain ⟨rText,e1,H⟩:=zal H;obtain ⟨rInt,e2,H⟩:=zal H;obtain ⟨rshOf,e3,H⟩:=zal H;repeat apply TW.seq
 refine rkc [6] [] [(.str rText,stL [.cells true 16 (public_.l.map (T.int .u8)),.cells true 16 ((zA 16).l.map (T.int .u8))]),(byts rInt,stL [.cells true 16 (public_.l.map (T.int .u8)),.cells true 16 ((zA 16).l.map (T.int .u8))]),(.agg (rshOf.l.map (T.int .u8)),stL [.cells true 16 (public_.l.map (T.int .u8)),.cells true 16 ((zA 16).l.map (T.int .u8))])] (f3 hh (@tStr.eq_1) (f2 (isu8 ax) (@tSrc.eq_1))) ?_ ?_
 ·exact ⟨za1.call ((zi8 ax hx k public_ rText e1 ).call _),za1.call ((zkj ax hx k index rInt e2 ).call _),za1.call ((zv5 ax hx k 3 [rText,strL rInt,message] rshOf e3 ).call _),trivial⟩
 clear hh h;intro h hh;cases H;exact rtc hh
end
section
open Go Go.RowKit
set_option maxRecDepth 100000
def zlg (k:Nat) (l:List (Ar 16)):Option (Ar 16):=((ydh k l).bind fun rsDigs=>((shOf k 1 [strL rsDigs]).bind fun rshOf=>some rshOf))
set_option maxHeartbeats 8000000 in
theorem zxv (ax:Axs) (hx:Pl ax) (k:Nat) (l:List (Ar 16)) (v:Ar 16) (H:zlg k l=some v):Pure Tryd.prog (EE ax) GLs 45 [digs l] (.agg (v.l.map (T.int .u8))):=by
 rw [zlg] at H;refine en [.cell 2 23] 8 [0] (hx.no _ (by decide)) (fn45 ax) ?_;intro h hh;repeat apply TW.seq
 refine rk [0,2] [] hh ?_;clear hh h;intro h hh;obtain ⟨rsDigs,e1,H⟩:=zal H;obtain ⟨rshOf,e2,H⟩:=zal H;repeat apply TW.seq
 refine rkc [2] [] [(byts rsDigs,stL [.cells true 16 ((zA 16).l.map (T.int .u8))]),(.agg (rshOf.l.map (T.int .u8)),stL [.cells true 16 ((zA 16).l.map (T.int .u8))])] (f3 hh (@tStr.eq_1) (f2 (isu8 ax) (@tSrc.eq_1))) ?_ ?_
 ·exact ⟨za1.call ((ydg ax hx k l rsDigs e1 ).call _),za1.call ((zv5 ax hx k 1 [strL rsDigs] rshOf e2 ).call _),trivial⟩
 clear hh h;intro h hh;cases H;exact rtc hh
def zdw (k:Nat) (index:Int) (rest_:ByteArray) (rDigits:Ar 35):Nat→Int→(List (Ar 16))→Nat→Option (List (Ar 16)×Nat)
 |0,_,_,_=>none
 |m+1,j,l,n=>(if j<35 then (if (0:Int)≤(IntKind.i64.wrap (16*j))∧(IntKind.i64.wrap (16*j))≤(rest_.size:Int) then ((zg4 k (rest_.extract (IntKind.i64.wrap (16*j)).toNat rest_.size)).bind fun rdigest=>(if (0:Int)≤j∧j<(35:Int) then ((zjx k index j rdigest (gx rDigits.l j) 15).bind fun rclimb=>(if (n+1)*17≤1000000000 then zdw k index rest_ rDigits m (IntKind.i64.wrap (j+1)) (l++[rclimb]) (n+1) else none)) else none)) else none) else some (l,n))
def zc5 (k:Nat) (height:Int) (rest_:ByteArray):Nat→Int→Int→(Ar 16)→Option (Ar 16)
 |0,_,_,_=>none
 |m+1,n2,level,x=>(if level<height then (if (0:Int)≤(IntKind.i64.wrap (16*(IntKind.i64.wrap (35+level))))∧(IntKind.i64.wrap (16*(IntKind.i64.wrap (35+level))))≤(rest_.size:Int) then ((zg4 k (rest_.extract (IntKind.i64.wrap (16*(IntKind.i64.wrap (35+level)))).toNat rest_.size)).bind fun rdigest2=>(if (0:Int)≤n2∧0<2 then (if (n2 % 2)=1 then ((zjw k (IntKind.i64.wrap (level+1)) (IntKind.i64.wrap (n2 / 2)) rdigest2 x).bind fun rnode=>zc5 k height rest_ m (IntKind.i64.wrap (n2 / 2)) (IntKind.i64.wrap (level+1)) rnode) else ((zjw k (IntKind.i64.wrap (level+1)) (IntKind.i64.wrap (n2 / 2)) x rdigest2).bind fun rnode2=>zc5 k height rest_ m (IntKind.i64.wrap (n2 / 2)) (IntKind.i64.wrap (level+1)) rnode2)) else none)) else none) else some x)
def zir (k:Nat) (public_:Ar 16) (height:Int) (index:Int) (message:ByteArray) (rest_:ByteArray):Option (Ar 16):=((zgd k public_ index message).bind fun rMessage=>((zis k rMessage).bind fun rDigits=>((zdw k index rest_ rDigits k 0 [] 0:Option (List (Ar 16)×Nat)).bind fun s_=>(if s_.1.length=s_.2 then ((zlg k s_.1).bind fun rleaf=>((zc5 k height rest_ k index 0 rleaf:Option (Ar 16)).bind fun s_2=>some s_2)) else none))))
set_option maxHeartbeats 8000000 in
theorem zlh (ax:Axs) (hx:Pl ax) (k:Nat) (public_:Ar 16) (height:Int) (index:Int) (message:ByteArray) (rest_:ByteArray) (v:Ar 16) (H:zir k public_ height index message rest_=some v):Pure Tryd.prog (EE ax) GLs 25 [.agg (public_.l.map (T.int .u8)),.int .i64 height,.int .i64 index,.str message,.str rest_] (.agg (v.l.map (T.int .u8))):=by
 rw [zir] at H;refine en [.cell 10 23] 75 [0,1,2,3,4] (hx.no _ (by decide)) (fn25 ax) ?_;intro h hh;repeat apply TW.seq
 refine rk [1,2,3,4,5,10] [] hh ?_;clear hh h;intro h hh;obtain ⟨rMessage,e1,H⟩:=zal H;obtain ⟨rDigits,e2,H⟩:=zal H;repeat apply TW.seq
 refine rkc [1,2,4,10,11] [] [(.agg (rMessage.l.map (T.int .u8)),stL [.cells true 16 (public_.l.map (T.int .u8)),.cells true 16 ((zA 16).l.map (T.int .u8))]),(.agg (rDigits.l.map (T.int .i64)),stL [.cells true 16 (public_.l.map (T.int .u8)),.cells true 16 ((zA 16).l.map (T.int .u8))])] hh ?_ ?_
 ·exact ⟨za1.call ((zrk ax hx k public_ index message rMessage e1 ).call _),za1.call ((ztk ax hx k rMessage rDigits e2 ).call _),trivial⟩
 clear hh h;intro h hh;repeat apply TW.seq
 refine rk [1,2,4,10,11,12] [] hh ?_;clear hh h;intro h hh;refine vk 12 16 [1,2,4,10,11,12] hh ?_;clear hh h;intro h hh;repeat apply TW.seq
 refine rk [1,2,4,10,11,12,13] [] hh ?_;clear hh h;intro h hh;obtain ⟨s_,H1,H⟩:=zal H;repeat apply TW.seq
 refine cu [1,2,4,10,12] 4 (fun h bs=>(h 1=.int .i64 height∧h 2=.int .i64 index∧h 4=.str rest_∧h 10=.ptr 1 0 16∧h 12=.arr 3 16 0 s_.2 s_.2 (s_.2*16))∧bs=[.cells true 16 (public_.l.map (T.int .u8)),.cells true 16 ((zA 16).l.map (T.int .u8)),.cells true 35 (rDigits.l.map (T.int .i64)),.cells false (s_.2*16) (vecC (eAr .u8) s_.1)]) ?_ ?_
 ·skip;repeat apply TW.seq
  apply TW.block;repeat apply TW.seq
  refine TW.loopT [1,2,4,10,11,12,13] (fun m h bs=>∃ (j:Int) (l:List (Ar 16)) (n:Nat),zdw k index rest_ rDigits m j l n=some s_∧(h 1=.int .i64 height∧h 2=.int .i64 index∧h 4=.str rest_∧h 10=.ptr 1 0 16∧h 11=.ptr 2 0 35∧h 12=.arr 3 16 0 n n (n*16)∧h 13=.int .i64 j)∧bs=[.cells true 16 (public_.l.map (T.int .u8)),.cells true 16 ((zA 16).l.map (T.int .u8)),.cells true 35 (rDigits.l.map (T.int .i64)),.cells false (n*16) (vecC (eAr .u8) l)]) ?_ k _ _ ?_;rotate_left
  ·exact ⟨0,[],0,H1,kq hh,rfl⟩
  clear hh h H1;rintro m h bs ⟨j,l,n,H1,hh,rfl⟩;rcases m with _|m
  ·rw [zdw] at H1;cases H1
  rw [zdw] at H1;repeat apply TW.seq
  refine rk [1,2,4,10,11,12,13,24] [] hh ?_;clear hh h;intro h hh;rcases isp H1 with ⟨c3,H1⟩|⟨c3,H1⟩;rotate_left
  ·skip;repeat apply TW.seq
   refine cf (f2 hh (decide_eq_false c3)) ?_;refine xk ?_;cases H1;exact ce hh ⟨kq hh,rfl⟩
  repeat apply TW.seq
  refine ct (f2 hh (decide_eq_true c3)) ?_;repeat apply TW.seq
  refine sk ?_;repeat apply TW.seq
  apply TW.block;obtain ⟨g4,H1⟩:=isg H1;obtain ⟨rdigest,e5,H1⟩:=zal H1;obtain ⟨g6,H1⟩:=isg H1;obtain ⟨rclimb,e7,H1⟩:=zal H1;obtain ⟨g8,H1⟩:=isg H1;repeat apply TW.seq
  refine dg 11 [.agg (rdigest.l.map (T.int .u8))] [] [(.agg (rclimb.l.map (T.int .u8)),stL [.cells true 16 (public_.l.map (T.int .u8)),.cells true 16 ((zA 16).l.map (T.int .u8)),.cells true 35 (rDigits.l.map (T.int .i64)),.cells false (n*16) (vecC (eAr .u8) l)])] [.cells true 16 (public_.l.map (T.int .u8)),.cells true 16 ((zA 16).l.map (T.int .u8)),.cells true 35 (rDigits.l.map (T.int .i64)),.cells false ((n+1)*16) (vecC (eAr .u8) (l++[rclimb]))] (fun h=>h 1=.int .i64 height∧h 2=.int .i64 index∧h 4=.str rest_∧h 10=.ptr 1 0 16∧h 11=.ptr 2 0 35∧h 12=.arr 3 16 0 (n+1) (n+1) ((n+1)*16)∧h 13=.int .i64 j) (f3 hh (ztc g4) (f2 (arIx rDigits g6) (@zqi .u8 16))) ?_ ?_ ?_
  ·exact ⟨(zmw ax hx k (rest_.extract (IntKind.i64.wrap (16*j)).toNat rest_.size) rdigest e5 ).call _,trivial⟩
  ·exact ⟨za1.call ((zvx ax hx k index j rdigest (gx rDigits.l j) 15 rclimb e7 ).call _),trivial⟩
  clear hh h;intro h hh;repeat apply TW.seq
  refine rk [1,2,4,10,11,12,13] [] hh ?_;clear hh h;intro h hh;exact rd m hh ⟨(IntKind.i64.wrap (j+1)),(l++[rclimb]),(n+1),H1,kq hh,rfl⟩
 clear hh h;rintro h bs ⟨hh,rfl⟩;obtain ⟨g9,H⟩:=isg H;repeat apply TW.seq
 refine TW.freeze 12 (b:=3) (e:=16) (off:=0) (len:=s_.2) (cap:=s_.2) (M:=(s_.2*16)) (s_.1.map (eAr .u8)) (kq hh) (by rfl) (by omega) (by omega) (by rw [List.drop_zero];exact znh (e:=16) (fun x=>zw3 x) g9) (fun t ht=>by obtain ⟨x,_,rfl⟩:=List.mem_map.1 ht;first|rfl|exact zhx _ | (rw [List.length_map];rfl)) (by rw [List.length_map];exact g9) (by omega) ?_;rw [zhi _ _ _ (by simp only [lzA]<;>omega)];simp only [scA];refine gk [1,2,4,10,12] hh ?_;clear hh h;intro h hh;obtain ⟨rleaf,e10,H⟩:=zal H;repeat apply TW.seq
 refine rkc [1,2,4,10,14] [] [(.agg (rleaf.l.map (T.int .u8)),stL [.cells true 16 (public_.l.map (T.int .u8)),.cells true 16 ((zA 16).l.map (T.int .u8)),.cells true 35 (rDigits.l.map (T.int .i64)),.gone])] hh ?_ ?_
 ·exact ⟨za1.call ((zxv ax hx k s_.1 rleaf e10 ).call _),trivial⟩
 clear hh h;intro h hh;repeat apply TW.seq
 refine rk [1,4,10,14,15] [] hh ?_;clear hh h;intro h hh;repeat apply TW.seq
 refine rk [1,4,10,14,15,16] [] hh ?_;clear hh h;intro h hh;obtain ⟨s_2,H1,H⟩:=zal H;repeat apply TW.seq
 refine cu [10,14] 5 (fun h bs=>(h 10=.ptr 1 0 16∧h 14=.ptr 4 0 16)∧bs=[.cells true 16 (public_.l.map (T.int .u8)),.cells true 16 ((zA 16).l.map (T.int .u8)),.cells true 35 (rDigits.l.map (T.int .i64)),.gone,.cells true 16 (s_2.l.map (T.int .u8))]) ?_ ?_
 ·skip;repeat apply TW.seq
  apply TW.block;repeat apply TW.seq
  refine TW.loopT [1,4,10,14,15,16] (fun m h bs=>∃ (n2:Int) (level:Int) (x:Ar 16),zc5 k height rest_ m n2 level x=some s_2∧(h 1=.int .i64 height∧h 4=.str rest_∧h 10=.ptr 1 0 16∧h 14=.ptr 4 0 16∧h 15=.int .i64 n2∧h 16=.int .i64 level)∧bs=[.cells true 16 (public_.l.map (T.int .u8)),.cells true 16 ((zA 16).l.map (T.int .u8)),.cells true 35 (rDigits.l.map (T.int .i64)),.gone,.cells true 16 (x.l.map (T.int .u8))]) ?_ k _ _ ?_;rotate_left
  ·exact ⟨index,0,rleaf,H1,kq hh,rfl⟩
  clear hh h H1;rintro m h bs ⟨n2,level,x,H1,hh,rfl⟩;rcases m with _|m
  ·rw [zc5] at H1;cases H1
  rw [zc5] at H1;repeat apply TW.seq
  refine rk [1,4,10,14,15,16,46] [] hh ?_;clear hh h;intro h hh;rcases isp H1 with ⟨c11,H1⟩|⟨c11,H1⟩;rotate_left
  ·skip;repeat apply TW.seq
   refine cf (f2 hh (decide_eq_false c11)) ?_;refine xk ?_;cases H1;exact ce hh ⟨kq hh,rfl⟩
  repeat apply TW.seq
  refine ct (f2 hh (decide_eq_true c11)) ?_;repeat apply TW.seq
  refine sk ?_;repeat apply TW.seq
  apply TW.block;obtain ⟨g12,H1⟩:=isg H1;obtain ⟨rdigest2,e13,H1⟩:=zal H1;repeat apply TW.seq
  refine rkc [1,4,10,14,15,16,17] [] [(.agg (rdigest2.l.map (T.int .u8)),stL [.cells true 16 (public_.l.map (T.int .u8)),.cells true 16 ((zA 16).l.map (T.int .u8)),.cells true 35 (rDigits.l.map (T.int .i64)),.gone,.cells true 16 (x.l.map (T.int .u8))])] (f2 hh (ztc g12)) ?_ ?_
  ·exact ⟨za1.call ((zmw ax hx k (rest_.extract (IntKind.i64.wrap (16*(IntKind.i64.wrap (35+level)))).toNat rest_.size) rdigest2 e13 ).call _),trivial⟩
  clear hh h;intro h hh;obtain ⟨g14,H1⟩:=isg H1;repeat apply TW.seq
  refine rk [1,4,10,14,15,16,17,57] [] hh ?_;clear hh h;intro h hh;rcases isp H1 with ⟨c15,H1⟩|⟨c15,H1⟩;rotate_left
  ·skip;repeat apply TW.seq
   refine cf (f2 hh (decide_eq_false c15)) ?_;obtain ⟨rnode2,e17,H1⟩:=zal H1;repeat apply TW.seq
   refine rkc [1,4,10,14,15,16] [] [(.agg (rnode2.l.map (T.int .u8)),stL [.cells true 16 (public_.l.map (T.int .u8)),.cells true 16 ((zA 16).l.map (T.int .u8)),.cells true 35 (rDigits.l.map (T.int .i64)),.gone,.cells true 16 (x.l.map (T.int .u8)),.cells true 16 (rdigest2.l.map (T.int .u8))])] hh ?_ ?_
   ·exact ⟨za1.call ((zpm ax hx k (IntKind.i64.wrap (level+1)) (IntKind.i64.wrap (n2 / 2)) x rdigest2 rnode2 e17 ).call _),trivial⟩
   clear hh h;intro h hh;repeat apply TW.seq
   refine rk [1,4,10,14,15,16] [] hh ?_;clear hh h;intro h hh;repeat apply TW.seq
   refine rk [1,4,10,14,15,16] [] hh ?_;clear hh h;intro h hh;exact rd m hh ⟨(IntKind.i64.wrap (n2 / 2)),(IntKind.i64.wrap (level+1)),rnode2,H1,kq hh,rfl⟩
  repeat apply TW.seq
  refine ct (f2 hh (decide_eq_true c15)) ?_;obtain ⟨rnode,e16,H1⟩:=zal H1;repeat apply TW.seq
  refine rkc [1,4,10,14,15,16] [] [(.agg (rnode.l.map (T.int .u8)),stL [.cells true 16 (public_.l.map (T.int .u8)),.cells true 16 ((zA 16).l.map (T.int .u8)),.cells true 35 (rDigits.l.map (T.int .i64)),.gone,.cells true 16 (x.l.map (T.int .u8)),.cells true 16 (rdigest2.l.map (T.int .u8))])] hh ?_ ?_
  ·exact ⟨za1.call ((zpm ax hx k (IntKind.i64.wrap (level+1)) (IntKind.i64.wrap (n2 / 2)) rdigest2 x rnode e16 ).call _),trivial⟩
  clear hh h;intro h hh;repeat apply TW.seq
  refine rk [1,4,10,14,15,16] [] hh ?_;clear hh h;intro h hh;repeat apply TW.seq
  refine rk [1,4,10,14,15,16] [] hh ?_;clear hh h;intro h hh;exact rd m hh ⟨(IntKind.i64.wrap (n2 / 2)),(IntKind.i64.wrap (level+1)),rnode,H1,kq hh,rfl⟩
 clear hh h;rintro h bs ⟨hh,rfl⟩;repeat apply TW.seq
 refine rk [10] [] hh ?_;clear hh h;intro h hh;cases H;exact rtc hh
end
section
open Go Go.RowKit
set_option maxRecDepth 100000
theorem z3c (k:Nat) (d:Dg):∀ (n i m:Nat) (a:List Int) (c:Nat),i+n=16→n<m→c≤i→zdx k d m (i:Int) a c=some (a++d.l.drop i,c+n)
  |0,i,m+1,a,c,h1,h2,h3=>by
    rw [zdx,if_neg (by omega),List.drop_eq_nil_of_le (by rw [d.h];omega),List.append_nil];rfl
  |n+1,i,m+1,a,c,h1,h2,h3=>by
    have hi:i<d.l.length:=by rw [d.h];omega
    have hg:gx d.l (i:Int)=d.l[i]:=by show d.l.getD i default=_;rw [List.getD_eq_getElem?_getD,List.getElem?_eq_getElem hi];rfl
    rw [zdx,if_pos (by omega),if_pos (by omega),if_pos (by omega),wi (by omega),show (i:Int)+1=((i+1:Nat):Int) by omega,z3c k d n (i+1) m _ (c+1) (by omega) (by omega) (by omega),List.drop_eq_getElem_cons hi,hg,List.append_assoc,show c+1+n=c+(n+1) by omega];rfl
theorem zv3 (k:Nat) (d:Dg):zgp (k+20) d=some (strL d.l):=by
  unfold zgp;have:=z3c (k+20) d 16 0 (k+20) [] 0 rfl (by omega) (by omega);rw [show ((0:Nat):Int)=0 from rfl] at this;rw [this,Option.bind_some,List.nil_append,List.drop_zero,if_pos (by rw [d.h])]
theorem ykr {s:ByteArray} (hs:16≤s.size) {j:Nat} (hj:j<16):gx (cpA (zA 16) s).l (j:Int)=((bx s (j:Int)).toNat:Int):=by
  have hl:s.data.toList.length=s.size:=Array.length_toList;show ((bytL s).take (min s.size 16)++(zA 16).l.drop (min s.size 16)).getD j default=_;rw [show min s.size 16=16 by omega,List.getD_eq_getElem?_getD,List.getElem?_append_left (by rw [List.length_take,zhg];omega),List.getElem?_take_of_lt hj];unfold bytL;rw [List.getElem?_map,List.getElem?_eq_getElem (by omega)];show _=((s.data.toList.getD j 0).toNat:Int);rw [List.getD_eq_getElem?_getD,List.getElem?_eq_getElem (by omega)];rfl
theorem z9d (k:Nat) {s:ByteArray} (hs:16≤s.size):∀ (n i m:Nat) (x:Dg),i+n=16→n<m→(∀ j:Nat,j<i→gx x.l (j:Int)=gx (cpA (zA 16) s).l (j:Int))→zcj k s m (i:Int) x=some (cpA (zA 16) s)
  |0,i,m+1,x,h1,h2,h3=>by
    rw [zcj,if_neg (by omega)];congr 1;exact Ar.ext_gx fun j hj=>h3 j (by omega)
  |n+1,i,m+1,x,h1,h2,h3=>by
    rw [zcj,if_pos (by omega),if_pos (by omega),if_pos (by omega),wi (by omega),show (i:Int)+1=((i+1:Nat):Int) by omega];refine z9d k hs n (i+1) m _ (by omega) (by omega) fun j hj=>?_;rw [zeq _ _ (by omega) (by omega)];by_cases hij:(i:Int)=(j:Int)
    · rw [if_pos hij];have:i=j:=by omega
      subst this;rw [ykr hs (by omega)]
    · rw [if_neg hij];exact h3 j (by omega)
theorem zug (k:Nat) {s:ByteArray} (hs:16≤s.size):zg4 (k+20) s=some (cpA (zA 16) s):=by
  unfold zg4;have:=z9d (k+20) hs 16 0 (k+20) (zA 16) rfl (by omega) (fun j hj=>absurd hj (by omega));rw [show ((0:Nat):Int)=0 from rfl] at this;rw [this];rfl
theorem zqm (k:Nat) (l:List Int) (f:Nat→List Int) (hf:∀ j:Nat,j<l.length→zhc k (gx l (j:Int))=some (f j)∧(f j).length≤100) (hl:l.length≤1000):∀ (n i m:Nat) (a:List Int) (c:Nat),i+n=l.length→n<m→c≤1000+100*i→a.length=c→zc7 k l m (i:Int) a c=some (a++catL f i n,c+(catL f i n).length)
  |0,i,m+1,a,c,h1,h2,h3,h4=>by
    rw [zc7,if_neg (by omega)]
    simp [catL]
  |n+1,i,m+1,a,c,h1,h2,h3,h4=>by
    have hi:=hf i (by omega);rw [zc7,if_pos (by omega),if_pos (by omega),hi.1];simp only [Option.bind_some];rw [if_pos (by omega),wi (by omega)];by_cases h0:(f i).length=0
    · rw [if_pos h0];have e:f i=[]:=List.eq_nil_of_length_eq_zero h0;have:=zqm k l f hf hl n (i+1) m a c (by omega) (by omega) (by omega) h4;rw [show catL f i (n+1)=catL f (i+1) n by show f i++_=_;rw [e];rfl];exact this
    · rw [if_neg h0];have:=zqm k l f hf hl n (i+1) m (a++f i) (c+(f i).length) (by omega) (by omega) (by omega) (by rw [List.length_append,h4]);rw [show ((i:Int)+1)=((i+1:Nat):Int) by omega,this];show some (a++f i++catL f (i+1) n,_)=some (a++(f i++catL f (i+1) n),c+(f i++catL f (i+1) n).length);rw [List.append_assoc,List.length_append,Nat.add_assoc]
theorem yj0 (k:Nat) {a b:Nat} (ha:a<64) (hb:b<64):zhk (k+10) [(a:Int),(b:Int)]=some [4,2*(a:Int),2*(b:Int)]:=by
  unfold zhk;rw [show (([(a:Int),(b:Int)]:List Int).length:Int)=((2:Nat):Int) from rfl,zr1 (k+9) (by omega)];simp only [Option.bind_some]
  have:=zqm (k+10) [(a:Int),(b:Int)] (fun j=>[2*gx [(a:Int),(b:Int)] (j:Int)]) (fun j hj=>by
    have:j=0∨j=1:=by simp only [List.length_cons,List.length_nil] at hj;omega
    rcases this with rfl|rfl
    · exact ⟨zih (k+9) ha,by simp⟩
    · exact ⟨zih (k+9) hb,by simp⟩) (by simp) 2 0 (k+10) [2*((2:Nat):Int)] 1 rfl (by omega) (by omega) rfl
  rw [show ((0:Nat):Int)=0 from rfl] at this;rw [this];simp only [Option.bind_some];rw [if_pos (by rfl)];rfl
theorem yjz (k:Nat) {a b c:Nat} (ha:a<64) (hb:b<64) (hc:c<64):zhk (k+10) [(a:Int),(b:Int),(c:Int)]=some [6,2*(a:Int),2*(b:Int),2*(c:Int)]:=by
  unfold zhk;rw [show (([(a:Int),(b:Int),(c:Int)]:List Int).length:Int)=((3:Nat):Int) from rfl,zr1 (k+9) (by omega)];simp only [Option.bind_some]
  have:=zqm (k+10) [(a:Int),(b:Int),(c:Int)] (fun j=>[2*gx [(a:Int),(b:Int),(c:Int)] (j:Int)]) (fun j hj=>by
    have:j=0∨j=1∨j=2:=by simp only [List.length_cons,List.length_nil] at hj;omega
    rcases this with rfl|rfl|rfl
    · exact ⟨zih (k+9) ha,by simp⟩
    · exact ⟨zih (k+9) hb,by simp⟩
    · exact ⟨zih (k+9) hc,by simp⟩) (by simp) 3 0 (k+10) [2*((3:Nat):Int)] 1 rfl (by omega) (by omega) rfl
  rw [show ((0:Nat):Int)=0 from rfl] at this;rw [this];simp only [Option.bind_some];rw [if_pos (by rfl)];rfl
theorem zyh (k:Nat) {i j:Nat} (hi:i<64) (hj:j<64) (to':Nat) (hto:to'≤15):∀ (n t m:Nat) (x:Dg),t+n=to'+1→n<m→zc4 (k+20) (i:Int) (j:Int) (to':Int) m (t:Int) x=some (zdt i j t n x)
  |0,t,m+1,x,h1,h2=>by
    rw [zc4,if_neg (by omega)];rfl
  |n+1,t,m+1,x,h1,h2=>by
    rw [zc4,if_pos (by omega),yjz (k+10) hi hj (show t<64 by omega)];simp only [Option.bind_some];rw [zv3];simp only [Option.bind_some];rw [yju _ _ (by rw [zcv];simp) (zlw _)];simp only [Option.bind_some];rw [wi (by omega)];exact zyh k hi hj to' hto n (t+1) m _ (by omega) (by omega)
theorem z9g (k:Nat) {i j:Nat} (hi:i<64) (hj:j<64) {fr to':Nat} (h:fr≤to') (hto:to'≤15) (v:Dg):zjx (k+30) (i:Int) (j:Int) v (fr:Int) (to':Int)=some (zdt i j (fr+1) (to' - fr) v):=by
  unfold zjx;rw [wi (by omega)];have:=zyh (k+10) hi hj to' hto (to' - fr) (fr+1) (k+30) v (by omega) (by omega);rw [show ((fr+1:Nat):Int)=(fr:Int)+1 by omega] at this;rw [this];rfl
theorem zy3 (f:Nat→Dg):∀ (n i:Nat),(mapR f i n).flatMap (fun d=>d.l)=catL (fun j=>(f j).l) i n
  |0,i=>rfl
  |n+1,i=>by
    show (f i :: mapR f (i+1) n).flatMap _=_;rw [List.flatMap_cons,zy3 f n (i+1)];rfl
theorem z38 {α:Type} {f:Nat→α} {P:α→Prop} (h:∀ j,P (f j)):∀ (n i:Nat),∀ d∈mapR f i n,P d
  |n+1,i,d,hd=>by
    rcases List.mem_cons.1 hd with rfl|hd
    · exact h i
    · exact z38 h n (i+1) d hd
theorem ydj (k:Nat) (f:Nat→Dg) (hf:∀ j,∀ x∈(f j).l,0≤x∧x<256):zlg k (mapR f 0 35)=some (ztl f):=by
  unfold zlg;have hl:(mapR f 0 35).length=35:=zep f 35 0
  have e:digB (mapR f 0 35)=[70]++catL (fun j=>(f j).l) 0 35:=by
    unfold digB;rw [hl,zy3];rfl
  rw [show ydh k (mapR f 0 35)=some (digB (mapR f 0 35)) from if_pos ⟨by omega,by omega,z38 (f:=f) (P:=fun d:Dg=>∀ x∈d.l,0≤x∧x<256) hf 35 0⟩,Option.bind_some,e,yjv _ _ (by rw [zcv];exact z0h f)];rfl
theorem z3d (k:Nat) {level n:Nat} (h1:level<64) (h2:n<64) (a b:Dg):zjw (k+20) (level:Int) (n:Int) a b=some (zsk level n a b):=by
  have e:=ydc (k+20) 2 (a:=strL [4,2*(level:Int),2*(n:Int)]) (b:=strL a.l) (c:=strL b.l) (by rw [zcv];simp) (zlw a) (zlw b);have e2:=yj0 (k+10) h1 h2;have e3:∀ x:Dg,zgp (k+20) x=some (strL x.l):=fun x=>zv3 k x;have e4:zsk level n a b=ofD 2 [strL [4,2*(level:Int),2*(n:Int)],strL a.l,strL b.l]:=rfl;rw [e4];generalize ofD 2 [strL [4,2*(level:Int),2*(n:Int)],strL a.l,strL b.l]=D at *;unfold zjw;rw [e2];simp only [Option.bind_some,e3,e]
def msgG (pub:Dg) (i:Int) (m:ByteArray):Dg:=ofD 3 [strL pub.l,strL (encI i),m]
theorem z6l (pub:Dg) {i:Nat} (hi:i<64) (m:ByteArray):msgG pub (i:Int) m=msgF pub i m:=by
  unfold msgG msgF;rw [z6r hi]
theorem ydv (k:Nat) (pub:Dg) {i:Int} (h1:-9223372036854775808≤i) (h2:i≤9223372036854775807) {m:ByteArray} (hm:m.size≤4000):zc3 (k+20) pub i m=some (msgG pub i m)∧zgd (k+20) pub i m=some (msgG pub i m):=by
  have e:=ydc (k+20) 3 (a:=strL pub.l) (b:=strL (encI i)) (c:=m) (zlw pub) (by rw [zcv];have:=yei h1 h2;omega) hm;have e2:=yd9 k i h1 h2;have e4:msgG pub i m=ofD 3 [strL pub.l,strL (encI i),m]:=rfl;rw [e4];generalize ofD 3 [strL pub.l,strL (encI i),m]=D at *;constructor
  · unfold zc3;rw [show zeg (k+20) pub=some (strL pub.l) from rfl];simp only [Option.bind_some,e2.1,e]
  · unfold zgd;rw [zv3];simp only [Option.bind_some,e2.2,e]
theorem yhv (k:Nat) (pub:Dg) {i:Nat} (hi:i<64) {m:ByteArray} (hm:m.size≤4000):zgd (k+20) pub (i:Int) m=some (msgF pub i m):=by
  rw [← z6l pub hi m];exact (ydv k pub (by omega) (by omega) hm).2
end
section
open Go Go.RowKit
set_option maxRecDepth 100000
end
section
open Go Go.RowKit
set_option maxRecDepth 100000
end
section
open Go Go.RowKit
theorem cvo (ax:Axs) (b:ByteArray) (h:b.size≤1000000000) (l:List Box):zl9 (EE ax) (stL l) 9 43 (.str b)=some (.arr l.length 1 0 b.size b.size b.size,stL (l++[.cells false b.size ((bytL b).map (T.int .u8))])):=by
  unfold zl9;rw [ti9 ax,ti43 ax];have hb:Nat.ble b.size 1000000000=true:=Nat.ble_eq_true_of_le h;have hl:(zgj b).length=b.size:=by rw [zoe,List.length_map,zhg]
  show (bif isU8 (EE ax) 5 && Nat.ble b.size 1000000000 then _ else _)=_;rw [isu8 ax,hb,hl,zxu,zoe];rfl
end
end Go.Proofs.YtcgdomhednbdpaaDoor
