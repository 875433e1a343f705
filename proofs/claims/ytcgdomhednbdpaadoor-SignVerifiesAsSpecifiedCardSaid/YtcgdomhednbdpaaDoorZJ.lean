/- Part 10 of the proof of SignVerifiesAsSpecified (several texts in one; no further condition). -/
import Derived.Test.YtcgdomhednbdpaaDoorZI
set_option linter.unusedSimpArgs false
set_option linter.unusedVariables false
set_option linter.unusedSectionVars false
namespace Go.Proofs.YtcgdomhednbdpaaDoor
section
open Go Go.RowKit
set_option maxRecDepth 100000
def zdc (k:Nat) (i:Int) (j:Int) (to_:Int):Nat→Int→(Ar 16)→Option (Ar 16)
 |0,_,_=>none
 |m+1,k_,x=>(if k_≤to_ then ((zhp k [i,j,k_]).bind fun rInts=>((zgv k x).bind fun rText=>((shOf k 1 [strL rInts,rText]).bind fun rshOf=>zdc k i j to_ m (IntKind.i64.wrap (k_+1)) rshOf))) else some x)
def zj2 (k:Nat) (i:Int) (j:Int) (v_:Ar 16) (from_:Int) (to_:Int):Option (Ar 16):=((zdc k i j to_ k (IntKind.i64.wrap (from_+1)) v_:Option (Ar 16)).bind fun s_=>some s_)
set_option maxHeartbeats 8000000 in
theorem zv0 (ax:Axs) (hx:Pl ax) (k:Nat) (i:Int) (j:Int) (v_:Ar 16) (from_:Int) (to_:Int) (v:Ar 16) (H:zj2 k i j v_ from_ to_=some v):Pure Tryd.prog (EE ax) GLs 31 [.int .i64 i,.int .i64 j,.agg (v_.l.map (T.int .u8)),.int .i64 from_,.int .i64 to_] (.agg (v.l.map (T.int .u8))):=by
 rw [zj2] at H;refine en [.cell 10 23] 30 [0,1,2,3,4] (hx.no _ (by decide)) (fn31 ax) ?_;intro h hh;repeat apply TW.seq
 refine rk [0,1,3,4,7,10] [] hh ?_;clear hh h;intro h hh;repeat apply TW.seq
 refine rk [0,1,4,7,10,11] [] hh ?_;clear hh h;intro h hh;obtain ⟨s_,H1,H⟩:=zam H;repeat apply TW.seq
 refine cu [7,10] 2 (fun h bs=>(h 7=.ptr 0 0 16∧h 10=.ptr 1 0 16)∧bs=[.cells true 16 (s_.l.map (T.int .u8)),.cells true 16 ((zA 16).l.map (T.int .u8))]) ?_ ?_
 ·skip;repeat apply TW.seq
  apply TW.block;repeat apply TW.seq
  refine TW.loopT [0,1,4,7,10,11] (fun m h bs=>∃ (k_:Int) (x:Ar 16),zdc k i j to_ m k_ x=some s_∧(h 0=.int .i64 i∧h 1=.int .i64 j∧h 4=.int .i64 to_∧h 7=.ptr 0 0 16∧h 10=.ptr 1 0 16∧h 11=.int .i64 k_)∧bs=[.cells true 16 (x.l.map (T.int .u8)),.cells true 16 ((zA 16).l.map (T.int .u8))]) ?_ k _ _ ?_;rotate_left
  ·exact ⟨(IntKind.i64.wrap (from_+1)),v_,H1,kq hh,rfl⟩
  clear hh h H1;rintro m h bs ⟨k_,x,H1,hh,rfl⟩;rcases m with _|m
  ·rw [zdc] at H1;cases H1
  rw [zdc] at H1;repeat apply TW.seq
  refine rk [0,1,4,7,10,11,16] [] hh ?_;clear hh h;intro h hh;rcases isp H1 with ⟨c1,H1⟩|⟨c1,H1⟩;rotate_left
  ·skip;repeat apply TW.seq
   refine cf (f2 hh (decide_eq_false c1)) ?_;refine xk ?_;cases H1;exact ce hh ⟨kq hh,rfl⟩
  repeat apply TW.seq
  refine ct (f2 hh (decide_eq_true c1)) ?_;repeat apply TW.seq
  refine sk ?_;repeat apply TW.seq
  apply TW.block;obtain ⟨rInts,e2,H1⟩:=zam H1;obtain ⟨rText,e3,H1⟩:=zam H1;obtain ⟨rshOf,e4,H1⟩:=zam H1;repeat apply TW.seq
  refine dk 8 [0,1,4,7,10,11] [byts rInts,.str rText] [] [(.agg (rshOf.l.map (T.int .u8)),stL [.cells true 16 (x.l.map (T.int .u8)),.cells true 16 ((zA 16).l.map (T.int .u8))])] (f3 hh (@tStr.eq_1) (f2 (isu8 ax) (@tSrc.eq_1))) ?_ ?_ ?_
  ·exact ⟨(zpq ax hx k [i,j,k_] rInts e2 ).call _,(zje ax hx k x rText e3 ).call _,trivial⟩
  ·exact ⟨za0.call ((zv7 ax hx k 1 [strL rInts,rText] rshOf e4 ).call _),trivial⟩
  clear hh h;intro h hh;repeat apply TW.seq
  refine rk [0,1,4,7,10,11] [] hh ?_;clear hh h;intro h hh;exact rd m hh ⟨(IntKind.i64.wrap (k_+1)),rshOf,H1,kq hh,rfl⟩
 clear hh h;rintro h bs ⟨hh,rfl⟩;repeat apply TW.seq
 refine rk [10] [] hh ?_;clear hh h;intro h hh;cases H;exact rtc hh
def zj1 (k:Nat) (level:Int) (n:Int) (a:Ar 16) (b:Ar 16):Option (Ar 16):=((zhp k [level,n]).bind fun rInts=>((zgv k a).bind fun rText=>((zgv k b).bind fun rText2=>((shOf k 2 [strL rInts,rText,rText2]).bind fun rshOf=>some rshOf))))
set_option maxHeartbeats 8000000 in
theorem zpo (ax:Axs) (hx:Pl ax) (k:Nat) (level:Int) (n:Int) (a:Ar 16) (b:Ar 16) (v:Ar 16) (H:zj1 k level n a b=some v):Pure Tryd.prog (EE ax) GLs 46 [.int .i64 level,.int .i64 n,.agg (a.l.map (T.int .u8)),.agg (b.l.map (T.int .u8))] (.agg (v.l.map (T.int .u8))):=by
 rw [zj1] at H;refine en [.cell 8 23] 20 [0,1,2,3] (hx.no _ (by decide)) (fn46 ax) ?_;intro h hh;repeat apply TW.seq
 refine rk [0,1,6,7,8] [] hh ?_;clear hh h;intro h hh;obtain ⟨rInts,e1,H⟩:=zam H;obtain ⟨rText,e2,H⟩:=zam H;obtain ⟨rText2,e3,H⟩:=zam H;obtain ⟨rshOf,e4,H⟩:=zam H;repeat apply TW.seq
 refine dk 9 [8] [byts rInts,.str rText,.str rText2] [] [(.agg (rshOf.l.map (T.int .u8)),stL [.cells true 16 (a.l.map (T.int .u8)),.cells true 16 (b.l.map (T.int .u8)),.cells true 16 ((zA 16).l.map (T.int .u8))])] (f3 hh (@tStr.eq_1) (f2 (isu8 ax) (@tSrc.eq_1))) ?_ ?_ ?_
 ·exact ⟨(zpq ax hx k [level,n] rInts e1 ).call _,(zje ax hx k a rText e2 ).call _,(zje ax hx k b rText2 e3 ).call _,trivial⟩
 ·exact ⟨za0.call ((zv7 ax hx k 2 [strL rInts,rText,rText2] rshOf e4 ).call _),trivial⟩
 clear hh h;intro h hh;cases H;exact rtc hh
def zgk (k:Nat) (public_:Ar 16) (index:Int) (message:ByteArray):Option (Ar 16):=((zgv k public_).bind fun rText=>((zhi k index).bind fun rInt=>((shOf k 3 [rText,strL rInt,message]).bind fun rshOf=>some rshOf)))
set_option maxHeartbeats 8000000 in
theorem zro (ax:Axs) (hx:Pl ax) (k:Nat) (public_:Ar 16) (index:Int) (message:ByteArray) (v:Ar 16) (H:zgk k public_ index message=some v):Pure Tryd.prog (EE ax) GLs 21 [.agg (public_.l.map (T.int .u8)),.int .i64 index,.str message] (.agg (v.l.map (T.int .u8))):=by
 rw [zgk] at H;refine en [.cell 6 23] 15 [0,1,2] (hx.no _ (by decide)) (fn21 ax) ?_;intro h hh;repeat apply TW.seq
 refine rk [1,2,3,6] [] hh ?_;clear hh h;intro h hh;obtain ⟨rText,e1,H⟩:=zam H;obtain ⟨rInt,e2,H⟩:=zam H;obtain ⟨rshOf,e3,H⟩:=zam H;repeat apply TW.seq
 refine rkc [6] [] [(.str rText,stL [.cells true 16 (public_.l.map (T.int .u8)),.cells true 16 ((zA 16).l.map (T.int .u8))]),(byts rInt,stL [.cells true 16 (public_.l.map (T.int .u8)),.cells true 16 ((zA 16).l.map (T.int .u8))]),(.agg (rshOf.l.map (T.int .u8)),stL [.cells true 16 (public_.l.map (T.int .u8)),.cells true 16 ((zA 16).l.map (T.int .u8))])] (f3 hh (@tStr.eq_1) (f2 (isu8 ax) (@tSrc.eq_1))) ?_ ?_
 ·exact ⟨za0.call ((zje ax hx k public_ rText e1 ).call _),za0.call ((zkm ax hx k index rInt e2 ).call _),za0.call ((zv7 ax hx k 3 [rText,strL rInt,message] rshOf e3 ).call _),trivial⟩
 clear hh h;intro h hh;cases H;exact rtc hh
end
section
open Go Go.RowKit
set_option maxRecDepth 100000
def zlk (k:Nat) (l:List (Ar 16)):Option (Ar 16):=((yd9 k l).bind fun rsDigs=>((shOf k 1 [strL rsDigs]).bind fun rshOf=>some rshOf))
set_option maxHeartbeats 8000000 in
theorem zx1 (ax:Axs) (hx:Pl ax) (k:Nat) (l:List (Ar 16)) (v:Ar 16) (H:zlk k l=some v):Pure Tryd.prog (EE ax) GLs 45 [digs l] (.agg (v.l.map (T.int .u8))):=by
 rw [zlk] at H;refine en [.cell 2 23] 8 [0] (hx.no _ (by decide)) (fn45 ax) ?_;intro h hh;repeat apply TW.seq
 refine rk [0,2] [] hh ?_;clear hh h;intro h hh;obtain ⟨rsDigs,e1,H⟩:=zam H;obtain ⟨rshOf,e2,H⟩:=zam H;repeat apply TW.seq
 refine rkc [2] [] [(byts rsDigs,stL [.cells true 16 ((zA 16).l.map (T.int .u8))]),(.agg (rshOf.l.map (T.int .u8)),stL [.cells true 16 ((zA 16).l.map (T.int .u8))])] (f3 hh (@tStr.eq_1) (f2 (isu8 ax) (@tSrc.eq_1))) ?_ ?_
 ·exact ⟨za0.call ((yd8 ax hx k l rsDigs e1 ).call _),za0.call ((zv7 ax hx k 1 [strL rsDigs] rshOf e2 ).call _),trivial⟩
 clear hh h;intro h hh;cases H;exact rtc hh
def zd4 (k:Nat) (index:Int) (rest_:ByteArray) (rDigits:Ar 35):Nat→Int→(List (Ar 16))→Nat→Option (List (Ar 16)×Nat)
 |0,_,_,_=>none
 |m+1,j,l,n=>(if j<35 then (if (0:Int)≤(IntKind.i64.wrap (16*j))∧(IntKind.i64.wrap (16*j))≤(rest_.size:Int) then ((zha k (rest_.extract (IntKind.i64.wrap (16*j)).toNat rest_.size)).bind fun rdigest=>(if (0:Int)≤j∧j<(35:Int) then ((zj2 k index j rdigest (gx rDigits.l j) 15).bind fun rclimb=>(if (n+1)*17≤1000000000 then zd4 k index rest_ rDigits m (IntKind.i64.wrap (j+1)) (l++[rclimb]) (n+1) else none)) else none)) else none) else some (l,n))
def zdd (k:Nat) (height:Int) (rest_:ByteArray):Nat→Int→Int→(Ar 16)→Option (Ar 16)
 |0,_,_,_=>none
 |m+1,n2,level,x=>(if level<height then (if (0:Int)≤(IntKind.i64.wrap (16*(IntKind.i64.wrap (35+level))))∧(IntKind.i64.wrap (16*(IntKind.i64.wrap (35+level))))≤(rest_.size:Int) then ((zha k (rest_.extract (IntKind.i64.wrap (16*(IntKind.i64.wrap (35+level)))).toNat rest_.size)).bind fun rdigest2=>(if (0:Int)≤n2∧0<2 then (if (n2 % 2)=1 then ((zj1 k (IntKind.i64.wrap (level+1)) (IntKind.i64.wrap (n2 / 2)) rdigest2 x).bind fun rnode=>zdd k height rest_ m (IntKind.i64.wrap (n2 / 2)) (IntKind.i64.wrap (level+1)) rnode) else ((zj1 k (IntKind.i64.wrap (level+1)) (IntKind.i64.wrap (n2 / 2)) x rdigest2).bind fun rnode2=>zdd k height rest_ m (IntKind.i64.wrap (n2 / 2)) (IntKind.i64.wrap (level+1)) rnode2)) else none)) else none) else some x)
def ziy (k:Nat) (public_:Ar 16) (height:Int) (index:Int) (message:ByteArray) (rest_:ByteArray):Option (Ar 16):=((zgk k public_ index message).bind fun rMessage=>((ziz k rMessage).bind fun rDigits=>((zd4 k index rest_ rDigits k 0 [] 0:Option (List (Ar 16)×Nat)).bind fun s_=>(if s_.1.length=s_.2 then ((zlk k s_.1).bind fun rleaf=>((zdd k height rest_ k index 0 rleaf:Option (Ar 16)).bind fun s_2=>some s_2)) else none))))
set_option maxHeartbeats 8000000 in
theorem zx2 (ax:Axs) (hx:Pl ax) (k:Nat) (public_:Ar 16) (height:Int) (index:Int) (message:ByteArray) (rest_:ByteArray) (v:Ar 16) (H:ziy k public_ height index message rest_=some v):Pure Tryd.prog (EE ax) GLs 25 [.agg (public_.l.map (T.int .u8)),.int .i64 height,.int .i64 index,.str message,.str rest_] (.agg (v.l.map (T.int .u8))):=by
 rw [ziy] at H;refine en [.cell 10 23] 75 [0,1,2,3,4] (hx.no _ (by decide)) (fn25 ax) ?_;intro h hh;repeat apply TW.seq
 refine rk [1,2,3,4,5,10] [] hh ?_;clear hh h;intro h hh;obtain ⟨rMessage,e1,H⟩:=zam H;obtain ⟨rDigits,e2,H⟩:=zam H;repeat apply TW.seq
 refine rkc [1,2,4,10,11] [] [(.agg (rMessage.l.map (T.int .u8)),stL [.cells true 16 (public_.l.map (T.int .u8)),.cells true 16 ((zA 16).l.map (T.int .u8))]),(.agg (rDigits.l.map (T.int .i64)),stL [.cells true 16 (public_.l.map (T.int .u8)),.cells true 16 ((zA 16).l.map (T.int .u8))])] hh ?_ ?_
 ·exact ⟨za0.call ((zro ax hx k public_ index message rMessage e1 ).call _),za0.call ((ztm ax hx k rMessage rDigits e2 ).call _),trivial⟩
 clear hh h;intro h hh;repeat apply TW.seq
 refine rk [1,2,4,10,11,12] [] hh ?_;clear hh h;intro h hh;refine vk 12 16 [1,2,4,10,11,12] hh ?_;clear hh h;intro h hh;repeat apply TW.seq
 refine rk [1,2,4,10,11,12,13] [] hh ?_;clear hh h;intro h hh;obtain ⟨s_,H1,H⟩:=zam H;repeat apply TW.seq
 refine cu [1,2,4,10,12] 4 (fun h bs=>(h 1=.int .i64 height∧h 2=.int .i64 index∧h 4=.str rest_∧h 10=.ptr 1 0 16∧h 12=.arr 3 16 0 s_.2 s_.2 (s_.2*16))∧bs=[.cells true 16 (public_.l.map (T.int .u8)),.cells true 16 ((zA 16).l.map (T.int .u8)),.cells true 35 (rDigits.l.map (T.int .i64)),.cells false (s_.2*16) (vecC (eAr .u8) s_.1)]) ?_ ?_
 ·skip;repeat apply TW.seq
  apply TW.block;repeat apply TW.seq
  refine TW.loopT [1,2,4,10,11,12,13] (fun m h bs=>∃ (j:Int) (l:List (Ar 16)) (n:Nat),zd4 k index rest_ rDigits m j l n=some s_∧(h 1=.int .i64 height∧h 2=.int .i64 index∧h 4=.str rest_∧h 10=.ptr 1 0 16∧h 11=.ptr 2 0 35∧h 12=.arr 3 16 0 n n (n*16)∧h 13=.int .i64 j)∧bs=[.cells true 16 (public_.l.map (T.int .u8)),.cells true 16 ((zA 16).l.map (T.int .u8)),.cells true 35 (rDigits.l.map (T.int .i64)),.cells false (n*16) (vecC (eAr .u8) l)]) ?_ k _ _ ?_;rotate_left
  ·exact ⟨0,[],0,H1,kq hh,rfl⟩
  clear hh h H1;rintro m h bs ⟨j,l,n,H1,hh,rfl⟩;rcases m with _|m
  ·rw [zd4] at H1;cases H1
  rw [zd4] at H1;repeat apply TW.seq
  refine rk [1,2,4,10,11,12,13,24] [] hh ?_;clear hh h;intro h hh;rcases isp H1 with ⟨c3,H1⟩|⟨c3,H1⟩;rotate_left
  ·skip;repeat apply TW.seq
   refine cf (f2 hh (decide_eq_false c3)) ?_;refine xk ?_;cases H1;exact ce hh ⟨kq hh,rfl⟩
  repeat apply TW.seq
  refine ct (f2 hh (decide_eq_true c3)) ?_;repeat apply TW.seq
  refine sk ?_;repeat apply TW.seq
  apply TW.block;obtain ⟨g4,H1⟩:=isg H1;obtain ⟨rdigest,e5,H1⟩:=zam H1;obtain ⟨g6,H1⟩:=isg H1;obtain ⟨rclimb,e7,H1⟩:=zam H1;obtain ⟨g8,H1⟩:=isg H1;repeat apply TW.seq
  refine dg 11 [.agg (rdigest.l.map (T.int .u8))] [] [(.agg (rclimb.l.map (T.int .u8)),stL [.cells true 16 (public_.l.map (T.int .u8)),.cells true 16 ((zA 16).l.map (T.int .u8)),.cells true 35 (rDigits.l.map (T.int .i64)),.cells false (n*16) (vecC (eAr .u8) l)])] [.cells true 16 (public_.l.map (T.int .u8)),.cells true 16 ((zA 16).l.map (T.int .u8)),.cells true 35 (rDigits.l.map (T.int .i64)),.cells false ((n+1)*16) (vecC (eAr .u8) (l++[rclimb]))] (fun h=>h 1=.int .i64 height∧h 2=.int .i64 index∧h 4=.str rest_∧h 10=.ptr 1 0 16∧h 11=.ptr 2 0 35∧h 12=.arr 3 16 0 (n+1) (n+1) ((n+1)*16)∧h 13=.int .i64 j) (f3 hh (z6e g4) (f2 (arIx rDigits g6) (@zql .u8 16))) ?_ ?_ ?_
  ·exact ⟨(zmy ax hx k (rest_.extract (IntKind.i64.wrap (16*j)).toNat rest_.size) rdigest e5 ).call _,trivial⟩
  ·exact ⟨za0.call ((zv0 ax hx k index j rdigest (gx rDigits.l j) 15 rclimb e7 ).call _),trivial⟩
  clear hh h;intro h hh;repeat apply TW.seq
  refine rk [1,2,4,10,11,12,13] [] hh ?_;clear hh h;intro h hh;exact rd m hh ⟨(IntKind.i64.wrap (j+1)),(l++[rclimb]),(n+1),H1,kq hh,rfl⟩
 clear hh h;rintro h bs ⟨hh,rfl⟩;obtain ⟨g9,H⟩:=isg H;repeat apply TW.seq
 refine TW.freeze 12 (b:=3) (e:=16) (off:=0) (len:=s_.2) (cap:=s_.2) (M:=(s_.2*16)) (s_.1.map (eAr .u8)) (kq hh) (by rfl) (by omega) (by omega) (by rw [List.drop_zero];exact znh (e:=16) (fun x=>zw8 x) g9) (fun t ht=>by obtain ⟨x,_,rfl⟩:=List.mem_map.1 ht;first|rfl|exact zh5 _ | (rw [List.length_map];rfl)) (by rw [List.length_map];exact g9) (by omega) ?_;rw [zhn _ _ _ (by simp only [lzA]<;>omega)];simp only [scA];refine gk [1,2,4,10,12] hh ?_;clear hh h;intro h hh;obtain ⟨rleaf,e10,H⟩:=zam H;repeat apply TW.seq
 refine rkc [1,2,4,10,14] [] [(.agg (rleaf.l.map (T.int .u8)),stL [.cells true 16 (public_.l.map (T.int .u8)),.cells true 16 ((zA 16).l.map (T.int .u8)),.cells true 35 (rDigits.l.map (T.int .i64)),.gone])] hh ?_ ?_
 ·exact ⟨za0.call ((zx1 ax hx k s_.1 rleaf e10 ).call _),trivial⟩
 clear hh h;intro h hh;repeat apply TW.seq
 refine rk [1,4,10,14,15] [] hh ?_;clear hh h;intro h hh;repeat apply TW.seq
 refine rk [1,4,10,14,15,16] [] hh ?_;clear hh h;intro h hh;obtain ⟨s_2,H1,H⟩:=zam H;repeat apply TW.seq
 refine cu [10,14] 5 (fun h bs=>(h 10=.ptr 1 0 16∧h 14=.ptr 4 0 16)∧bs=[.cells true 16 (public_.l.map (T.int .u8)),.cells true 16 ((zA 16).l.map (T.int .u8)),.cells true 35 (rDigits.l.map (T.int .i64)),.gone,.cells true 16 (s_2.l.map (T.int .u8))]) ?_ ?_
 ·skip;repeat apply TW.seq
  apply TW.block;repeat apply TW.seq
  refine TW.loopT [1,4,10,14,15,16] (fun m h bs=>∃ (n2:Int) (level:Int) (x:Ar 16),zdd k height rest_ m n2 level x=some s_2∧(h 1=.int .i64 height∧h 4=.str rest_∧h 10=.ptr 1 0 16∧h 14=.ptr 4 0 16∧h 15=.int .i64 n2∧h 16=.int .i64 level)∧bs=[.cells true 16 (public_.l.map (T.int .u8)),.cells true 16 ((zA 16).l.map (T.int .u8)),.cells true 35 (rDigits.l.map (T.int .i64)),.gone,.cells true 16 (x.l.map (T.int .u8))]) ?_ k _ _ ?_;rotate_left
  ·exact ⟨index,0,rleaf,H1,kq hh,rfl⟩
  clear hh h H1;rintro m h bs ⟨n2,level,x,H1,hh,rfl⟩;rcases m with _|m
  ·rw [zdd] at H1;cases H1
  rw [zdd] at H1;repeat apply TW.seq
  refine rk [1,4,10,14,15,16,46] [] hh ?_;clear hh h;intro h hh;rcases isp H1 with ⟨c11,H1⟩|⟨c11,H1⟩;rotate_left
  ·skip;repeat apply TW.seq
   refine cf (f2 hh (decide_eq_false c11)) ?_;refine xk ?_;cases H1;exact ce hh ⟨kq hh,rfl⟩
  repeat apply TW.seq
  refine ct (f2 hh (decide_eq_true c11)) ?_;repeat apply TW.seq
  refine sk ?_;repeat apply TW.seq
  apply TW.block;obtain ⟨g12,H1⟩:=isg H1;obtain ⟨rdigest2,e13,H1⟩:=zam H1;repeat apply TW.seq
  refine rkc [1,4,10,14,15,16,17] [] [(.agg (rdigest2.l.map (T.int .u8)),stL [.cells true 16 (public_.l.map (T.int .u8)),.cells true 16 ((zA 16).l.map (T.int .u8)),.cells true 35 (rDigits.l.map (T.int .i64)),.gone,.cells true 16 (x.l.map (T.int .u8))])] (f2 hh (z6e g12)) ?_ ?_
  ·exact ⟨za0.call ((zmy ax hx k (rest_.extract (IntKind.i64.wrap (16*(IntKind.i64.wrap (35+level)))).toNat rest_.size) rdigest2 e13 ).call _),trivial⟩
  clear hh h;intro h hh;obtain ⟨g14,H1⟩:=isg H1;repeat apply TW.seq
  refine rk [1,4,10,14,15,16,17,57] [] hh ?_;clear hh h;intro h hh;rcases isp H1 with ⟨c15,H1⟩|⟨c15,H1⟩;rotate_left
  ·skip;repeat apply TW.seq
   refine cf (f2 hh (decide_eq_false c15)) ?_;obtain ⟨rnode2,e17,H1⟩:=zam H1;repeat apply TW.seq
   refine rkc [1,4,10,14,15,16] [] [(.agg (rnode2.l.map (T.int .u8)),stL [.cells true 16 (public_.l.map (T.int .u8)),.cells true 16 ((zA 16).l.map (T.int .u8)),.cells true 35 (rDigits.l.map (T.int .i64)),.gone,.cells true 16 (x.l.map (T.int .u8)),.cells true 16 (rdigest2.l.map (T.int .u8))])] hh ?_ ?_
   ·exact ⟨za0.call ((zpo ax hx k (IntKind.i64.wrap (level+1)) (IntKind.i64.wrap (n2 / 2)) x rdigest2 rnode2 e17 ).call _),trivial⟩
   clear hh h;intro h hh;repeat apply TW.seq
   refine rk [1,4,10,14,15,16] [] hh ?_;clear hh h;intro h hh;repeat apply TW.seq
   refine rk [1,4,10,14,15,16] [] hh ?_;clear hh h;intro h hh;exact rd m hh ⟨(IntKind.i64.wrap (n2 / 2)),(IntKind.i64.wrap (level+1)),rnode2,H1,kq hh,rfl⟩
  repeat apply TW.seq
  refine ct (f2 hh (decide_eq_true c15)) ?_;obtain ⟨rnode,e16,H1⟩:=zam H1;repeat apply TW.seq
  refine rkc [1,4,10,14,15,16] [] [(.agg (rnode.l.map (T.int .u8)),stL [.cells true 16 (public_.l.map (T.int .u8)),.cells true 16 ((zA 16).l.map (T.int .u8)),.cells true 35 (rDigits.l.map (T.int .i64)),.gone,.cells true 16 (x.l.map (T.int .u8)),.cells true 16 (rdigest2.l.map (T.int .u8))])] hh ?_ ?_
  ·exact ⟨za0.call ((zpo ax hx k (IntKind.i64.wrap (level+1)) (IntKind.i64.wrap (n2 / 2)) rdigest2 x rnode e16 ).call _),trivial⟩
  clear hh h;intro h hh;repeat apply TW.seq
  refine rk [1,4,10,14,15,16] [] hh ?_;clear hh h;intro h hh;repeat apply TW.seq
  refine rk [1,4,10,14,15,16] [] hh ?_;clear hh h;intro h hh;exact rd m hh ⟨(IntKind.i64.wrap (n2 / 2)),(IntKind.i64.wrap (level+1)),rnode,H1,kq hh,rfl⟩
 clear hh h;rintro h bs ⟨hh,rfl⟩;repeat apply TW.seq
 refine rk [10] [] hh ?_;clear hh h;intro h hh;cases H;exact rtc hh
def zea (k:Nat) (public_:Ar 16) (height:Int) (message:ByteArray) (signature:ByteArray):Option (Int×Int):=((zcu k height).bind fun rCount=>(if rCount=0 then some (0,1) else (if signature.size≤1000000000 then ((zi0 k (bytL signature)).bind fun rGetInt=>(if rGetInt.2.2≠0 then some (0,rGetInt.2.2) else (((if rGetInt.1<0 then some true else ((zcu k height).bind fun rCount2=>some (decide (rCount2≤rGetInt.1)))):Option Bool).bind fun s_=>(if s_=true then some (0,8) else ((zcw k height rGetInt.1).bind fun rSize=>(if (signature.size:Int)<rSize then some (0,5) else ((zcw k height rGetInt.1).bind fun rSize2=>(if rSize2<(signature.size:Int) then some (0,6) else (if (0:Int)≤rGetInt.2.1∧rGetInt.2.1≤(signature.size:Int) then ((ziy k public_ height rGetInt.1 message (signature.extract rGetInt.2.1.toNat signature.size)).bind fun rRoot=>(if rRoot=public_ then some (rGetInt.1,0) else some (0,8))) else none))))))))) else none)))
set_option maxHeartbeats 8000000 in
theorem ztl (ax:Axs) (hx:Pl ax) (k:Nat) (public_:Ar 16) (height:Int) (message:ByteArray) (signature:ByteArray) (v:Int×Int) (H:zea k public_ height message signature=some v):Pure Tryd.prog (EE ax) GLs 23 [.agg (public_.l.map (T.int .u8)),.int .i64 height,.str message,.str signature] (tupT [.int .i64 v.1,.int .i64 v.2]):=by
 rw [zea] at H;refine enN [.tmp 8,.tmp 9] 57 [0,1,2,3] (hx.no _ (by decide)) (fn23 ax) ?_;intro h hh;repeat apply TW.seq
 refine rk [1,2,3,4] [] hh ?_;clear hh h;intro h hh;obtain ⟨rCount,e1,H⟩:=zam H;repeat apply TW.seq
 refine rkc [1,2,3,4,15] [] [(.int .i64 rCount,stL [.cells true 16 (public_.l.map (T.int .u8))])] hh ?_ ?_
 ·exact ⟨za0.call ((zkl ax hx k height rCount e1 ).call _),trivial⟩
 clear hh h;intro h hh;rcases isp H with ⟨c2,H⟩|⟨c2,H⟩;rotate_left
 ·skip;repeat apply TW.seq
  refine cf (f2 hh (decide_eq_false c2)) ?_;repeat apply TW.seq
  refine sk ?_;obtain ⟨g3,H⟩:=isg H;obtain ⟨rGetInt,e4,H⟩:=zam H;repeat apply TW.seq
  refine rkc [1,2,3,4,10,11,12] [] [(.tup [.int .i64 rGetInt.1,.int .i64 rGetInt.2.1,.int .i64 rGetInt.2.2],stL [.cells true 16 (public_.l.map (T.int .u8))])] (f3 hh (isu8 ax) (zjo signature)) ?_ ?_
  ·exact ⟨za0.call ((ztn ax hx k (bytL signature) rGetInt e4 ).call _),trivial⟩
  clear hh h;intro h hh;repeat apply TW.seq
  refine rk [1,2,3,4,10,11,12,24] [] hh ?_;clear hh h;intro h hh;rcases isp H with ⟨c5,H⟩|⟨c5,H⟩;rotate_left
  ·skip;repeat apply TW.seq
   refine cf (f2 hh (decide_eq_false c5)) ?_;repeat apply TW.seq
   refine sk ?_;obtain ⟨s_,H1,H⟩:=zam H;repeat apply TW.seq
   refine cu [1,2,3,4,10,11,33] 1 (fun h bs=>(h 1=.int .i64 height∧h 2=.str message∧h 3=.str signature∧h 4=.ptr 0 0 16∧h 10=.int .i64 rGetInt.1∧h 11=.int .i64 rGetInt.2.1∧h 33=.bool s_)∧bs=[.cells true 16 (public_.l.map (T.int .u8))]) ?_ ?_
   ·skip;rcases isp H1 with ⟨c6,H1⟩|⟨c6,H1⟩;rotate_left
    ·skip;obtain ⟨rCount2,e7,H1⟩:=zam H1;repeat apply TW.seq
     refine rkc [1,2,3,4,10,11,33] [] [(.int .i64 rCount2,stL [.cells true 16 (public_.l.map (T.int .u8))])] (f2 hh (decide_eq_false c6)) ?_ ?_
     ·exact ⟨za0.call ((zkl ax hx k height rCount2 e7 ).call _),trivial⟩
     clear hh h;intro h hh;cases H1;exact ce hh ⟨kq hh,rfl⟩
    repeat apply TW.seq
    refine rk [1,2,3,4,10,11,33] [] (f2 hh (decide_eq_true c6)) ?_;clear hh h;intro h hh;cases H1;exact ce hh ⟨kq hh,rfl⟩
   clear hh h;rintro h bs ⟨hh,rfl⟩;rcases isb H with ⟨c8,H⟩|⟨c8,H⟩;rotate_left
   ·skip;repeat apply TW.seq
    refine cf (f2 hh c8) ?_;repeat apply TW.seq
    refine sk ?_;obtain ⟨rSize,e9,H⟩:=zam H;repeat apply TW.seq
    refine rkc [1,2,3,4,10,11,39] [] [(.int .i64 rSize,stL [.cells true 16 (public_.l.map (T.int .u8))])] (f2 hh c8) ?_ ?_
    ·exact ⟨za0.call (Pure.clr (zpp ax hx k height rGetInt.1 rSize e9 ) (by first|rfl|simp only [c8])),trivial⟩
    clear hh h;intro h hh;rcases isp H with ⟨c10,H⟩|⟨c10,H⟩;rotate_left
    ·skip;repeat apply TW.seq
     refine cf (f2 hh (decide_eq_false c10)) ?_;repeat apply TW.seq
     refine sk ?_;obtain ⟨rSize2,e11,H⟩:=zam H;repeat apply TW.seq
     refine rkc [1,2,3,4,10,11,45] [] [(.int .i64 rSize2,stL [.cells true 16 (public_.l.map (T.int .u8))])] (f2 hh c8) ?_ ?_
     ·exact ⟨za0.call (Pure.clr (zpp ax hx k height rGetInt.1 rSize2 e11 ) (by first|rfl|simp only [c8])),trivial⟩
     clear hh h;intro h hh;rcases isp H with ⟨c12,H⟩|⟨c12,H⟩;rotate_left
     ·skip;repeat apply TW.seq
      refine cf (f2 hh (decide_eq_false c12)) ?_;repeat apply TW.seq
      refine sk ?_;obtain ⟨g13,H⟩:=isg H;obtain ⟨rRoot,e14,H⟩:=zam H;repeat apply TW.seq
      refine dk 9 [10,55] [.agg (rRoot.l.map (T.int .u8))] [] [] (f3 hh c8 (f2 (z6e g13) ((aq23 ax rRoot public_).2))) ?_ trivial ?_
      ·exact ⟨Pure.clr (zx2 ax hx k public_ height rGetInt.1 message (signature.extract rGetInt.2.1.toNat signature.size) rRoot e14 ) (by first|rfl|simp only [c8]),trivial⟩
      clear hh h;intro h hh;rcases isp H with ⟨c15,H⟩|⟨c15,H⟩;rotate_left
      ·skip;repeat apply TW.seq
       refine ct (f2 hh (decide_eq_false c15)) ?_;repeat apply TW.seq
       refine rk [8,9] [] (f2 hh c8) ?_;clear hh h;intro h hh;cases H;exact rt hh
      repeat apply TW.seq
      refine cf (f2 hh (decide_eq_true c15)) ?_;repeat apply TW.seq
      refine sk ?_;repeat apply TW.seq
      refine rk [8,9] [] (f2 hh c8) ?_;clear hh h;intro h hh;cases H;exact rt hh
     repeat apply TW.seq
     refine ct (f2 hh (decide_eq_true c12)) ?_;repeat apply TW.seq
     refine rk [8,9] [] (f2 hh c8) ?_;clear hh h;intro h hh;cases H;exact rt hh
    repeat apply TW.seq
    refine ct (f2 hh (decide_eq_true c10)) ?_;repeat apply TW.seq
    refine rk [8,9] [] (f2 hh c8) ?_;clear hh h;intro h hh;cases H;exact rt hh
   repeat apply TW.seq
   refine ct (f2 hh c8) ?_;repeat apply TW.seq
   refine rk [8,9] [] (f2 hh c8) ?_;clear hh h;intro h hh;cases H;exact rt hh
  repeat apply TW.seq
  refine ct (f2 hh (decide_eq_true c5)) ?_;repeat apply TW.seq
  refine rk [8,9] [] hh ?_;clear hh h;intro h hh;cases H;exact rt hh
 repeat apply TW.seq
 refine ct (f2 hh (decide_eq_true c2)) ?_;repeat apply TW.seq
 refine rk [8,9] [] hh ?_;clear hh h;intro h hh;cases H;exact rt hh
end
section
open Go Go.RowKit
set_option maxRecDepth 100000
theorem z3n (k:Nat) (d:Dg):∀ (n i m:Nat) (a:List Int) (c:Nat),i+n=16→n<m→c≤i→zd5 k d m (i:Int) a c=some (a++d.l.drop i,c+n)
  |0,i,m+1,a,c,h1,h2,h3=>by
    rw [zd5,if_neg (by omega),List.drop_eq_nil_of_le (by rw [d.h];omega),List.append_nil];rfl
  |n+1,i,m+1,a,c,h1,h2,h3=>by
    have hi:i<d.l.length:=by rw [d.h];omega
    have hg:gx d.l (i:Int)=d.l[i]:=by show d.l.getD i default=_;rw [List.getD_eq_getElem?_getD,List.getElem?_eq_getElem hi];rfl
    rw [zd5,if_pos (by omega),if_pos (by omega),if_pos (by omega),wi (by omega),show (i:Int)+1=((i+1:Nat):Int) by omega,z3n k d n (i+1) m _ (c+1) (by omega) (by omega) (by omega),List.drop_eq_getElem_cons hi,hg,List.append_assoc,show c+1+n=c+(n+1) by omega];rfl
theorem zv5 (k:Nat) (d:Dg):zgv (k+20) d=some (strL d.l):=by
  unfold zgv;have:=z3n (k+20) d 16 0 (k+20) [] 0 rfl (by omega) (by omega);rw [show ((0:Nat):Int)=0 from rfl] at this;rw [this,Option.bind_some,List.nil_append,List.drop_zero,if_pos (by rw [d.h])]
theorem ylv {s:ByteArray} (hs:16≤s.size) {j:Nat} (hj:j<16):gx (cpA (zA 16) s).l (j:Int)=((bx s (j:Int)).toNat:Int):=by
  have hl:s.data.toList.length=s.size:=Array.length_toList;show ((bytL s).take (min s.size 16)++(zA 16).l.drop (min s.size 16)).getD j default=_;rw [show min s.size 16=16 by omega,List.getD_eq_getElem?_getD,List.getElem?_append_left (by rw [List.length_take,zjo];omega),List.getElem?_take_of_lt hj];unfold bytL;rw [List.getElem?_map,List.getElem?_eq_getElem (by omega)];show _=((s.data.toList.getD j 0).toNat:Int);rw [List.getD_eq_getElem?_getD,List.getElem?_eq_getElem (by omega)];rfl
theorem z9w (k:Nat) {s:ByteArray} (hs:16≤s.size):∀ (n i m:Nat) (x:Dg),i+n=16→n<m→(∀ j:Nat,j<i→gx x.l (j:Int)=gx (cpA (zA 16) s).l (j:Int))→zcq k s m (i:Int) x=some (cpA (zA 16) s)
  |0,i,m+1,x,h1,h2,h3=>by
    rw [zcq,if_neg (by omega)];congr 1;exact Ar.ext_gx fun j hj=>h3 j (by omega)
  |n+1,i,m+1,x,h1,h2,h3=>by
    rw [zcq,if_pos (by omega),if_pos (by omega),if_pos (by omega),wi (by omega),show (i:Int)+1=((i+1:Nat):Int) by omega];refine z9w k hs n (i+1) m _ (by omega) (by omega) fun j hj=>?_;rw [zey _ _ (by omega) (by omega)];by_cases hij:(i:Int)=(j:Int)
    · rw [if_pos hij];have:i=j:=by omega
      subst this;rw [ylv hs (by omega)]
    · rw [if_neg hij];exact h3 j (by omega)
theorem zuk (k:Nat) {s:ByteArray} (hs:16≤s.size):zha (k+20) s=some (cpA (zA 16) s):=by
  unfold zha;have:=z9w (k+20) hs 16 0 (k+20) (zA 16) rfl (by omega) (fun j hj=>absurd hj (by omega));rw [show ((0:Nat):Int)=0 from rfl] at this;rw [this];rfl
theorem zqq (k:Nat) (l:List Int) (f:Nat→List Int) (hf:∀ j:Nat,j<l.length→zhi k (gx l (j:Int))=some (f j)∧(f j).length≤100) (hl:l.length≤1000):∀ (n i m:Nat) (a:List Int) (c:Nat),i+n=l.length→n<m→c≤1000+100*i→a.length=c→zdf k l m (i:Int) a c=some (a++catL f i n,c+(catL f i n).length)
  |0,i,m+1,a,c,h1,h2,h3,h4=>by
    rw [zdf,if_neg (by omega)]
    simp [catL]
  |n+1,i,m+1,a,c,h1,h2,h3,h4=>by
    have hi:=hf i (by omega);rw [zdf,if_pos (by omega),if_pos (by omega),hi.1];simp only [Option.bind_some];rw [if_pos (by omega),wi (by omega)];by_cases h0:(f i).length=0
    · rw [if_pos h0];have e:f i=[]:=List.eq_nil_of_length_eq_zero h0;have:=zqq k l f hf hl n (i+1) m a c (by omega) (by omega) (by omega) h4;rw [show catL f i (n+1)=catL f (i+1) n by show f i++_=_;rw [e];rfl];exact this
    · rw [if_neg h0];have:=zqq k l f hf hl n (i+1) m (a++f i) (c+(f i).length) (by omega) (by omega) (by omega) (by rw [List.length_append,h4]);rw [show ((i:Int)+1)=((i+1:Nat):Int) by omega,this];show some (a++f i++catL f (i+1) n,_)=some (a++(f i++catL f (i+1) n),c+(f i++catL f (i+1) n).length);rw [List.append_assoc,List.length_append,Nat.add_assoc]
theorem yk4 (k:Nat) {a b:Nat} (ha:a<64) (hb:b<64):zhp (k+10) [(a:Int),(b:Int)]=some [4,2*(a:Int),2*(b:Int)]:=by
  unfold zhp;rw [show (([(a:Int),(b:Int)]:List Int).length:Int)=((2:Nat):Int) from rfl,zr5 (k+9) (by omega)];simp only [Option.bind_some]
  have:=zqq (k+10) [(a:Int),(b:Int)] (fun j=>[2*gx [(a:Int),(b:Int)] (j:Int)]) (fun j hj=>by
    have:j=0∨j=1:=by simp only [List.length_cons,List.length_nil] at hj;omega
    rcases this with rfl|rfl
    · exact ⟨zio (k+9) ha,by simp⟩
    · exact ⟨zio (k+9) hb,by simp⟩) (by simp) 2 0 (k+10) [2*((2:Nat):Int)] 1 rfl (by omega) (by omega) rfl
  rw [show ((0:Nat):Int)=0 from rfl] at this;rw [this];simp only [Option.bind_some];rw [if_pos (by rfl)];rfl
theorem yk3 (k:Nat) {a b c:Nat} (ha:a<64) (hb:b<64) (hc:c<64):zhp (k+10) [(a:Int),(b:Int),(c:Int)]=some [6,2*(a:Int),2*(b:Int),2*(c:Int)]:=by
  unfold zhp;rw [show (([(a:Int),(b:Int),(c:Int)]:List Int).length:Int)=((3:Nat):Int) from rfl,zr5 (k+9) (by omega)];simp only [Option.bind_some]
  have:=zqq (k+10) [(a:Int),(b:Int),(c:Int)] (fun j=>[2*gx [(a:Int),(b:Int),(c:Int)] (j:Int)]) (fun j hj=>by
    have:j=0∨j=1∨j=2:=by simp only [List.length_cons,List.length_nil] at hj;omega
    rcases this with rfl|rfl|rfl
    · exact ⟨zio (k+9) ha,by simp⟩
    · exact ⟨zio (k+9) hb,by simp⟩
    · exact ⟨zio (k+9) hc,by simp⟩) (by simp) 3 0 (k+10) [2*((3:Nat):Int)] 1 rfl (by omega) (by omega) rfl
  rw [show ((0:Nat):Int)=0 from rfl] at this;rw [this];simp only [Option.bind_some];rw [if_pos (by rfl)];rfl
theorem zyo (k:Nat) {i j:Nat} (hi:i<64) (hj:j<64) (to':Nat) (hto:to'≤15):∀ (n t m:Nat) (x:Dg),t+n=to'+1→n<m→zdc (k+20) (i:Int) (j:Int) (to':Int) m (t:Int) x=some (zd1 i j t n x)
  |0,t,m+1,x,h1,h2=>by
    rw [zdc,if_neg (by omega)];rfl
  |n+1,t,m+1,x,h1,h2=>by
    rw [zdc,if_pos (by omega),yk3 (k+10) hi hj (show t<64 by omega)];simp only [Option.bind_some];rw [zv5];simp only [Option.bind_some];rw [ykx _ _ (by rw [ze5];simp) (zly _)];simp only [Option.bind_some];rw [wi (by omega)];exact zyo k hi hj to' hto n (t+1) m _ (by omega) (by omega)
theorem z9y (k:Nat) {i j:Nat} (hi:i<64) (hj:j<64) {fr to':Nat} (h:fr≤to') (hto:to'≤15) (v:Dg):zj2 (k+30) (i:Int) (j:Int) v (fr:Int) (to':Int)=some (zd1 i j (fr+1) (to' - fr) v):=by
  unfold zj2;rw [wi (by omega)];have:=zyo (k+10) hi hj to' hto (to' - fr) (fr+1) (k+30) v (by omega) (by omega);rw [show ((fr+1:Nat):Int)=(fr:Int)+1 by omega] at this;rw [this];rfl
theorem zy9 (f:Nat→Dg):∀ (n i:Nat),(mapR f i n).flatMap (fun d=>d.l)=catL (fun j=>(f j).l) i n
  |0,i=>rfl
  |n+1,i=>by
    show (f i :: mapR f (i+1) n).flatMap _=_;rw [List.flatMap_cons,zy9 f n (i+1)];rfl
theorem z4k {α:Type} {f:Nat→α} {P:α→Prop} (h:∀ j,P (f j)):∀ (n i:Nat),∀ d∈mapR f i n,P d
  |n+1,i,d,hd=>by
    rcases List.mem_cons.1 hd with rfl|hd
    · exact h i
    · exact z4k h n (i+1) d hd
theorem yed (k:Nat) (f:Nat→Dg) (hf:∀ j,∀ x∈(f j).l,0≤x∧x<256):zlk k (mapR f 0 35)=some (zto f):=by
  unfold zlk;have hl:(mapR f 0 35).length=35:=zex f 35 0
  have e:digB (mapR f 0 35)=[70]++catL (fun j=>(f j).l) 0 35:=by
    unfold digB;rw [hl,zy9];rfl
  rw [show yd9 k (mapR f 0 35)=some (digB (mapR f 0 35)) from if_pos ⟨by omega,by omega,z4k (f:=f) (P:=fun d:Dg=>∀ x∈d.l,0≤x∧x<256) hf 35 0⟩,Option.bind_some,e,yky _ _ (by rw [ze5];exact z0o f)];rfl
theorem z3p (k:Nat) {level n:Nat} (h1:level<64) (h2:n<64) (a b:Dg):zj1 (k+20) (level:Int) (n:Int) a b=some (zsp level n a b):=by
  have e:=yd4 (k+20) 2 (a:=strL [4,2*(level:Int),2*(n:Int)]) (b:=strL a.l) (c:=strL b.l) (by rw [ze5];simp) (zly a) (zly b);have e2:=yk4 (k+10) h1 h2;have e3:∀ x:Dg,zgv (k+20) x=some (strL x.l):=fun x=>zv5 k x;have e4:zsp level n a b=ofD 2 [strL [4,2*(level:Int),2*(n:Int)],strL a.l,strL b.l]:=rfl;rw [e4];generalize ofD 2 [strL [4,2*(level:Int),2*(n:Int)],strL a.l,strL b.l]=D at *;unfold zj1;rw [e2];simp only [Option.bind_some,e3,e]
def msgG (pub:Dg) (i:Int) (m:ByteArray):Dg:=ofD 3 [strL pub.l,strL (encI i),m]
theorem z6z (pub:Dg) {i:Nat} (hi:i<64) (m:ByteArray):msgG pub (i:Int) m=msgF pub i m:=by
  unfold msgG msgF;rw [z65 hi]
theorem yeq (k:Nat) (pub:Dg) {i:Int} (h1:-9223372036854775808≤i) (h2:i≤9223372036854775807) {m:ByteArray} (hm:m.size≤4000):zcm (k+20) pub i m=some (msgG pub i m)∧zgk (k+20) pub i m=some (msgG pub i m):=by
  have e:=yd4 (k+20) 3 (a:=strL pub.l) (b:=strL (encI i)) (c:=m) (zly pub) (by rw [ze5];have:=yfg h1 h2;omega) hm;have e2:=ye6 k i h1 h2;have e4:msgG pub i m=ofD 3 [strL pub.l,strL (encI i),m]:=rfl;rw [e4];generalize ofD 3 [strL pub.l,strL (encI i),m]=D at *;constructor
  · unfold zcm;rw [show zep (k+20) pub=some (strL pub.l) from rfl];simp only [Option.bind_some,e2.1,e]
  · unfold zgk;rw [zv5];simp only [Option.bind_some,e2.2,e]
theorem yiy (k:Nat) (pub:Dg) {i:Nat} (hi:i<64) {m:ByteArray} (hm:m.size≤4000):zgk (k+20) pub (i:Int) m=some (msgF pub i m):=by
  rw [← z6z pub hi m];exact (yeq k pub (by omega) (by omega) hm).2
end
section
open Go Go.RowKit
set_option maxRecDepth 100000
end
section
open Go Go.RowKit
set_option maxRecDepth 100000
def zbr (k:Nat) (public_:Ar 16) (height:Int) (message:ByteArray) (signature:ByteArray):Option Bool:=((zll k ).bind fun rsanity=>(((if 200<(message.size:Int) then some true else some (decide (800<(signature.size:Int)))):Option Bool).bind fun s_=>(if s_=true then some rsanity else ((za3 k public_ height message signature).bind fun rVerify=>((zea k public_ height message signature).bind fun rVerify2=>(if rsanity=true then (if rVerify.1=rVerify2.1 then some (decide (rVerify.2=rVerify2.2)) else some false) else some false))))))
set_option maxHeartbeats 8000000 in
theorem zh1 (ax:Axs) (hx:Pl ax) (k:Nat) (public_:Ar 16) (height:Int) (message:ByteArray) (signature:ByteArray) (v:Bool) (H:zbr k public_ height message signature=some v):Pure Tryd.prog (EE ax) GLs 5 [.agg (public_.l.map (T.int .u8)),.int .i64 height,.str message,.str signature] (.bool v):=by
 rw [zbr] at H;refine en [.tmp 8] 51 [0,1,2,3] (hx.no _ (by decide)) (fn5 ax) ?_;intro h hh;repeat apply TW.seq
 refine rk [1,2,3,4] [] hh ?_;clear hh h;intro h hh;obtain ⟨rsanity,e1,H⟩:=zam H;repeat apply TW.seq
 refine rkc [1,2,3,4,9] [] [(.bool rsanity,stL [.cells true 16 (public_.l.map (T.int .u8))])] hh ?_ ?_
 ·exact ⟨za0.call ((zx7 ax hx k  rsanity e1 ).call _),trivial⟩
 clear hh h;intro h hh;obtain ⟨s_,H1,H⟩:=zam H;repeat apply TW.seq
 refine cu [1,2,3,4,9,22] 1 (fun h bs=>(h 1=.int .i64 height∧h 2=.str message∧h 3=.str signature∧h 4=.ptr 0 0 16∧h 9=.bool rsanity∧h 22=.bool s_)∧bs=[.cells true 16 (public_.l.map (T.int .u8))]) ?_ ?_
 ·skip;rcases isp H1 with ⟨c2,H1⟩|⟨c2,H1⟩;rotate_left
  ·skip;repeat apply TW.seq
   refine rk [1,2,3,4,9,22] [] (f2 hh (decide_eq_false c2)) ?_;clear hh h;intro h hh;cases H1;exact ce hh ⟨kq hh,rfl⟩
  repeat apply TW.seq
  refine rk [1,2,3,4,9,22] [] (f2 hh (decide_eq_true c2)) ?_;clear hh h;intro h hh;cases H1;exact ce hh ⟨kq hh,rfl⟩
 clear hh h;rintro h bs ⟨hh,rfl⟩;rcases isb H with ⟨c3,H⟩|⟨c3,H⟩;rotate_left
 ·skip;repeat apply TW.seq
  refine cf (f2 hh c3) ?_;repeat apply TW.seq
  refine sk ?_;obtain ⟨rVerify,e4,H⟩:=zam H;repeat apply TW.seq
  refine rkc [1,2,3,4,9,10,11] [] [(.tup [.int .i64 rVerify.1,.int .i64 rVerify.2],stL [.cells true 16 (public_.l.map (T.int .u8))])] (f2 hh c3) ?_ ?_
  ·exact ⟨za0.call (Pure.clr (zix ax hx k public_ height message signature rVerify e4 ) (by first|rfl|simp only [c3])),trivial⟩
  clear hh h;intro h hh;obtain ⟨rVerify2,e5,H⟩:=zam H;repeat apply TW.seq
  refine rkc [9,10,11,12,13] [] [(.tup [.int .i64 rVerify2.1,.int .i64 rVerify2.2],stL [.cells true 16 (public_.l.map (T.int .u8))])] (f2 hh c3) ?_ ?_
  ·exact ⟨za0.call (Pure.clr (ztl ax hx k public_ height message signature rVerify2 e5 ) (by first|rfl|simp only [c3])),trivial⟩
  clear hh h;intro h hh;rcases isb H with ⟨c6,H⟩|⟨c6,H⟩;rotate_left
  ·skip;repeat apply TW.seq
   refine rk [8] [] (f3 hh c6 c3) ?_;clear hh h;intro h hh;cases H;exact rt hh
  rcases isp H with ⟨c7,H⟩|⟨c7,H⟩;rotate_left
  ·skip;repeat apply TW.seq
   refine rk [8] [] (f3 hh c6 (f2 (decide_eq_false c7) c3)) ?_;clear hh h;intro h hh;cases H;exact rt hh
  repeat apply TW.seq
  refine rk [8] [] (f3 hh c6 (f2 (decide_eq_true c7) c3)) ?_;clear hh h;intro h hh;cases H;exact rt hh
 repeat apply TW.seq
 refine ct (f2 hh c3) ?_;repeat apply TW.seq
 refine rk [8] [] (f2 hh c3) ?_;clear hh h;intro h hh;cases H;exact rt hh
end
section
open Go Go.RowKit
end
section
open Go Go.RowKit
set_option maxRecDepth 100000
end
section
open Go Go.RowKit WM
set_option maxRecDepth 100000
theorem z9o (k:Nat) (s:ByteArray) {i h:Nat} (hi:i<64) (D:Ar 16) (hD:Byt D) (hs:s.size=16*(35+h)) (hh:h≤6):∀ (n j m:Nat) (a:List Dg) (c:Nat),j+n=35→n<m→c≤j→zd4 (k+100) (i:Int) s (digA D) m (j:Int) a c=some (a++mapR (fun j=>zd1 i j (dgN D j+1) (15 - dgN D j) (blkA (bytL s) (16*j))) j n,c+n)
  |0,j,m+1,a,c,h1,h2,h3=>by
    rw [zd4,if_neg (by omega)]
    simp [mapR]
  |n+1,j,m+1,a,c,h1,h2,h3=>by
    have hd:=z5i hD (show j<35 by omega);have e:=z9y (k+70) hi (show j<64 by omega) hd.1 (Nat.le_refl 15) (blkA (bytL s) (16*j));rw [show ((15:Nat):Int)=15 from rfl] at e;have eb:=zuk (k+80) (s:=s.extract (16*j) s.size) (by rw [ByteArray.size_extract];omega);rw [ych s (by omega)] at eb;rw [zd4,if_pos (by omega),wi (show _∧16*(j:Int)≤_ by omega),if_pos (by omega),show (16*(j:Int)).toNat=16*j by omega,eb,Option.bind_some,if_pos (by omega),hd.2,e,Option.bind_some,if_pos (by omega),wi (by omega),show (j:Int)+1=((j+1:Nat):Int) by omega,z9o k s hi D hD hs hh n (j+1) m _ (c+1) (by omega) (by omega) (by omega),List.append_assoc,show c+1+n=c+(n+1) by omega];rfl
theorem z1l (k:Nat) (s:ByteArray) {h i:Nat} (hh:h≤6) (hi:i<64) (hs:s.size=16*(35+h)):∀ (n l m:Nat) (v:Dg),l+n=h→n<m→zdd (k+100) (h:Int) s m ((i / 2 ^ l:Nat):Int) (l:Int) v=some (rtL i (fun j=>blkA (bytL s) (16*j)) l n v)
  |0,l,m+1,v,h1,h2=>by
    rw [zdd,if_neg (by omega)];rfl
  |n+1,l,m+1,v,h1,h2=>by
    have hq:i / 2 ^ l<64:=Nat.lt_of_le_of_lt (Nat.div_le_self _ _) hi;have hq1:i / 2 ^ (l+1)<64:=Nat.lt_of_le_of_lt (Nat.div_le_self _ _) hi;have eb:=zuk (k+80) (s:=s.extract (16*(35+l)) s.size) (by rw [ByteArray.size_extract];omega);rw [ych s (by omega)] at eb;have hw:∀ q:Nat,q<64→IntKind.i64.wrap (q:Int)=q:=fun q h=>wi (by omega)
    have hd:((i / 2 ^ l:Nat):Int) / 2=((i / 2 ^ (l+1):Nat):Int):=by
      rw [Nat.pow_succ,← Nat.div_div_eq_div_mul];omega
    rw [zdd,if_pos (by omega),wi (show _∧35+(l:Int)≤_ by omega),wi (show _∧16*(35+(l:Int))≤_ by omega),if_pos (by omega),show (16*(35+(l:Int))).toNat=16*(35+l) by omega,eb,Option.bind_some,if_pos ⟨Int.natCast_nonneg _,by decide⟩,hd,hw _ hq1,wi (show _∧(l:Int)+1≤_ by omega),show (l:Int)+1=((l+1:Nat):Int) by omega];show _=some (rtL i _ (l+1) n (if (i / 2 ^ l) % 2=1 then _ else _))
    have hm:(((i / 2 ^ l:Nat):Int) % 2=1)↔(i / 2 ^ l) % 2=1:=by
      generalize i / 2 ^ l=q;omega
    by_cases hb:i / 2 ^ l % 2=1
    · rw [if_pos (hm.2 hb),if_pos hb,z3p (k+80) (by omega) hq1,Option.bind_some];exact z1l k s hh hi hs n (l+1) m _ (by omega) (by omega)
    · rw [if_neg (fun q=>hb (hm.1 q)),if_neg hb,z3p (k+80) (by omega) hq1,Option.bind_some];exact z1l k s hh hi hs n (l+1) m _ (by omega) (by omega)
theorem yec (k:Nat) (P:Dg) {m s:ByteArray} (hm:m.size≤4000) {h i:Nat} (hh:h≤6) (hi:i<2 ^ h) (hs:s.size=16*(35+h)):ziy (k+100) P (h:Int) (i:Int) m s=some (zv6 P h i m fun j=>blkA (bytL s) (16*j)):=by
  have hp:=zfa hh;have hM:=zqv P i m;have e0:=z9o k s (show i<64 by omega) (msgF P i m) hM hs hh 35 0 (k+100) [] 0 rfl (by omega) (by omega);rw [show ((0:Nat):Int)=0 from rfl] at e0;have e1:=fun v=>z1l k s hh (show i<64 by omega) hs h 0 (k+100) v (by omega) (by omega);simp only [show ((0:Nat):Int)=0 from rfl,Nat.pow_zero,Nat.div_one] at e1;unfold ziy;rw [yiy (k+80) P (by omega) hm,Option.bind_some,z6v (k+80) _ hM,Option.bind_some,e0,Option.bind_some,List.nil_append];dsimp only;rw [if_pos (by rw [zex]),yed (k+100) (fun j=>zd1 i j (dgN (msgF P i m) j+1) (15 - dgN (msgF P i m) j) (blkA (bytL s) (16*j))) fun j=>?_,Option.bind_some,e1,Option.bind_some]
  · rfl
  · refine zpa _ _ _ _ _ fun x hx=>?_;unfold blkA at hx;by_cases hj:16*j+16≤(bytL s).length
    · rw [z4h (by rw [List.length_take,List.length_drop];omega)] at hx;exact zxk s x (List.mem_of_mem_drop (List.mem_of_mem_take hx))
    · have:x∈(((bytL s).drop (16*j)).take 16++List.replicate 16 0).take 16:=hx;rcases List.mem_append.1 (List.mem_of_mem_take this) with h1|h1
      · exact zxk s x (List.mem_of_mem_drop (List.mem_of_mem_take h1))
      · rw [(List.mem_replicate.1 h1).2];omega
theorem yc9 (s:ByteArray) {h:Nat} (hs:s.size=1+16*(35+h)) {j:Nat} (hj:j<35+h):blkA (bytL (s.extract 1 s.size)) (16*j)=blkA (bytL s) (1+16*j):=by
  unfold blkA;rw [zl2,List.drop_take,List.drop_drop,List.take_take];congr 2;omega
theorem z58 (s:ByteArray):bytL s=bvi s.data.toList:=rfl
theorem zzd (k:Nat) (P:Dg) (h:Int) (m s:ByteArray):zbr (k+100) P h m s=some true:=by
  unfold zbr;rw [yiv,Option.bind_some];by_cases h1:200<(m.size:Int)
  · rw [if_pos h1,Option.bind_some,if_pos rfl]
  rw [if_neg h1,Option.bind_some];by_cases h2:800<(s.size:Int)
  · rw [if_pos (decide_eq_true h2)]
  rw [if_neg (by rw [decide_eq_true_eq];exact h2)];have hm:m.size≤4000:=by omega
  have key:∀ p:Int×Int,za3 (k+100) P h m s=some p→zea (k+100) P h m s=some p→((za3 (k+100) P h m s).bind fun rVerify=>((zea (k+100) P h m s).bind fun rVerify2=>(if true=true then (if rVerify.1=rVerify2.1 then some (decide (rVerify.2=rVerify2.2)) else some false) else some false)))=some true:=by
    intro p e1 e2;rw [e1,e2];simp
  by_cases h3:h<0∨6<h
  · refine key (0,1) ?_ ?_
    · unfold za3;rw [zq2 _ h3,Option.bind_some,if_pos rfl]
    · unfold zea;rw [zr9 _ h3,Option.bind_some,if_pos rfl]
  obtain ⟨H,rfl⟩:∃ H:Nat,h=(H:Int):=⟨h.toNat,by omega⟩;have hh:H≤6:=by omega
  have hp:=zfa hh;have hl:s.data.toList.length=s.size:=Array.length_toList;have g1:=yh9 (k+80) s.data.toList (by omega);have g2:=yiz (k+80) s.data.toList (by omega);rw [← z58] at g1 g2
  have v0:za3 (k+100) P (H:Int) m s=((zbx (k+100) (H:Int) (resD (dec s.data.toList)).1).bind fun rSize=>(if (resD (dec s.data.toList)).2.2≠0 then some (0,(resD (dec s.data.toList)).2.2) else (if rSize=0 then some (0,8) else (if (s.size:Int)<rSize then some (0,5) else (if rSize<(s.size:Int) then some (0,6) else ((zcm (k+100) P (resD (dec s.data.toList)).1 m).bind fun rMessage=>((zdb (k+100) rMessage).bind fun rDigits=>((zg8 (k+100) (fun y=>zdm (k+100) y (resD (dec s.data.toList)).1 (fun y2=>zbf (k+100) y2 s (resD (dec s.data.toList)).2.1) rDigits)).bind fun rleaf=>((zbe (k+100) (H:Int) s (resD (dec s.data.toList)) (k+100) 0 rleaf:Option (Ar 16)).bind fun s_=>(if s_=P then some ((resD (dec s.data.toList)).1,0) else some (0,8))))))))))):=by
    unfold za3;rw [zf7 _ H hh,Option.bind_some,if_neg (by omega),if_pos (by omega),g1,Option.bind_some]
  have r0:zea (k+100) P (H:Int) m s=(if (resD (dec s.data.toList)).2.2≠0 then some (0,(resD (dec s.data.toList)).2.2) else (((if (resD (dec s.data.toList)).1<0 then some true else ((zcu (k+100) (H:Int)).bind fun rCount2=>some (decide (rCount2≤(resD (dec s.data.toList)).1)))):Option Bool).bind fun s_=>(if s_=true then some (0,8) else ((zcw (k+100) (H:Int) (resD (dec s.data.toList)).1).bind fun rSize=>(if (s.size:Int)<rSize then some (0,5) else ((zcw (k+100) (H:Int) (resD (dec s.data.toList)).1).bind fun rSize2=>(if rSize2<(s.size:Int) then some (0,6) else (if (0:Int)≤(resD (dec s.data.toList)).2.1∧(resD (dec s.data.toList)).2.1≤(s.size:Int) then ((ziy (k+100) P (H:Int) (resD (dec s.data.toList)).1 m (s.extract (resD (dec s.data.toList)).2.1.toNat s.size)).bind fun rRoot=>(if rRoot=P then some ((resD (dec s.data.toList)).1,0) else some (0,8))) else none)))))))):=by
    unfold zea;rw [zj6 (k+80) H hh,Option.bind_some,if_neg (by omega),if_pos (by omega),g2,Option.bind_some]
  cases hd:dec s.data.toList with
  |error e =>
    have he:=yjq hd;rw [hd] at v0 r0;obtain ⟨c,hc,_⟩:=sizes (k+80) (H:Int) 0;refine key (0,e) ?_ ?_
    · rw [v0];show ((zbx (k+100) (H:Int) 0).bind _)=_;rw [hc,Option.bind_some];exact if_pos (by show e≠0;omega)
    · rw [r0];exact if_pos (by show e≠0;omega)
  |ok q =>
    obtain ⟨n,u⟩:=q;obtain ⟨c1,c2,c3,c4,c5,c6⟩:=yce hd;rw [hd] at v0 r0;by_cases h5:n<0∨((2 ^ H:Nat):Int)≤n
    · refine key (0,8) ?_ ?_
      · rw [v0];show ((zbx (k+100) (H:Int) n).bind _)=_;rw [z8x _ hh h5,Option.bind_some,if_neg (by simp [resD]),if_pos rfl]
      · rw [r0,if_neg (by simp [resD])];show ((if n<0 then some true else ((zcu (k+100) (H:Int)).bind fun rCount2=>some (decide (rCount2≤n))):Option Bool).bind _)=_;by_cases h0:n<0
        · rw [if_pos h0,Option.bind_some,if_pos rfl]
        · rw [if_neg h0,zj6 (k+80) H hh,Option.bind_some,Option.bind_some,if_pos (by rw [decide_eq_true_eq];omega)]
    · obtain ⟨i,rfl⟩:∃ i:Nat,n=(i:Int):=⟨n.toNat,by omega⟩;have hi:i<2 ^ H:=by omega
      have he:enc (i:Int)=[UInt8.ofNat (2*i)]:=by
        have e:zig (i:Int)=2*i:=by unfold zig;rw [if_neg (by omega)];omega
        unfold enc;rw [e,zh0 (by omega)]
      rw [he] at c1 c2;have hu:u=1:=c2;subst hu
      obtain ⟨r,hr⟩:∃ r:List Int,bytL s=2*(i:Int) :: r:=by
        rw [z58]
        cases hl2:s.data.toList with
        |nil=>rw [hl2] at c3;simp at c3
        |cons a r =>
          rw [hl2] at c1;have ha:a=UInt8.ofNat (2*i):=by simpa using c1
          refine ⟨bvi r,?_⟩;show tn a :: bvi r=_;rw [ha];congr 1;show ((UInt8.ofNat (2*i)).toNat:Int)=_;rw [zcn (by omega)];rfl
      have r1:zea (k+100) P (H:Int) m s=(if (s.size:Int)<1+16*(35+(H:Int)) then some (0,5) else (if 1+16*(35+(H:Int))<(s.size:Int) then some (0,6) else (if (0:Int)≤1∧1≤(s.size:Int) then ((ziy (k+100) P (H:Int) (i:Int) m (s.extract 1 s.size)).bind fun rRoot=>(if rRoot=P then some ((i:Int),0) else some (0,8))) else none))):=by
        rw [r0,if_neg (by simp [resD])];show ((if (i:Int)<0 then some true else ((zcu (k+100) (H:Int)).bind fun rCount2=>some (decide (rCount2≤(i:Int)))):Option Bool).bind _)=_;rw [if_neg (by omega),zj6 (k+80) H hh,Option.bind_some,Option.bind_some,if_neg (by rw [decide_eq_true_eq];omega)];show ((zcw (k+100) (H:Int) (i:Int)).bind fun rSize=>(if (s.size:Int)<rSize then some (0,5) else ((zcw (k+100) (H:Int) (i:Int)).bind _)))=_;rw [z3o (k+80) hh hi,Option.bind_some,Option.bind_some];rfl
      by_cases z1:s.size<1+16*(35+H)
      · refine key (0,5) (zxu k P m hh hi z1 hr) ?_;rw [r1,if_pos (by omega)]
      by_cases z2:1+16*(35+H)<s.size
      · refine key (0,6) (zrh k P m hh hi z2 (by omega) hr) ?_;rw [r1,if_neg (by omega),if_pos (by omega)]
      have hz:s.size=1+16*(35+H):=by omega
      have er:=yec k P hm hh hi (s:=s.extract 1 s.size) (by rw [ByteArray.size_extract];omega);rw [zr4 (fun j hj=>yc9 s hz hj)] at er;refine key _ (zrg k P hm hh hi hz hr) ?_;rw [r1,if_neg (by omega),if_neg (by omega),if_pos (by omega),er,Option.bind_some];generalize zv6 P H i m (fun j=>blkA (bytL s) (1+16*j))=R;split<;>rfl
end
end Go.Proofs.YtcgdomhednbdpaaDoor
