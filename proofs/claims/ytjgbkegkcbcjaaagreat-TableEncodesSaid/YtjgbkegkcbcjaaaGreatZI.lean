/- Part 9 of the proof of TableEncodes (several texts in one; no further condition). -/
import Derived.Test.YtjgbkegkcbcjaaaGreatZF
import Derived.Laws.BitsLemmas
import Derived.Test.YtjgbkegkcbcjaaaGreatZC
import Derived.Laws.Bits64
import Derived.Test.YtjgbkegkcbcjaaaGreatZH
import Derived.Lib.Zigzag
import Derived.Lib.VarintBits
set_option linter.unusedSimpArgs false
set_option linter.unusedVariables false
set_option linter.unusedSectionVars false
namespace Go.Proofs.YtjgbkegkcbcjaaaGreat
section
open Go Go.RowKit
set_option maxRecDepth 100000
def zdx (k:Nat)  : Nat→Int→(List Int)→Nat→Option (Int×List Int×Nat)
 |0,_,_,_=>none
 |m+1,z,l,n2=>(if 128≤z then (if (0:Int)≤z∧0<128 then (if (n2+1)*2≤1000000000 then zdx k  m (IntKind.u64.wrap (z / 128)) (l++[IntKind.u8.wrap ((IntKind.u8.wrap (z % 128))+128)]) (n2+1) else none) else none) else some (z,l,n2))
def zhd (k:Nat) (n:Int):Option (List Int):=(((if n<0 then some (IntKind.u64.wrap ((IntKind.u64.wrap ((IntKind.u64.wrap (IntKind.i64.wrap ((-1) - n)))*2))+1)) else some (IntKind.u64.wrap ((IntKind.u64.wrap (n))*2))):Option Int).bind fun s_=>((zdx k  k s_ [] 0:Option (Int×List Int×Nat)).bind fun s_2=>(if (s_2.2.2+1)*2≤1000000000 then (if (s_2.2.1++[IntKind.u8.wrap (s_2.1)]).length=s_2.2.2+1 then some (s_2.2.1++[IntKind.u8.wrap (s_2.1)]) else none) else none)))
set_option maxHeartbeats 8000000 in
theorem zdw (ax:Axs) (hx:zb7 ax) (k:Nat) (n:Int) (v:List Int) (H:zhd k n=some v):Pure Tryz.prog (EE ax) [] 98 [.int .i64 n] (byts v):=by
 rw [zhd] at H;refine en [.tmp 2] 31 [0] (hx.no _ (by decide)) (fn98 ax) ?_;intro h hh;repeat apply TW.seq
 refine rk [0] [] hh ?_;clear hh h;intro h hh;repeat apply TW.seq
 refine rk [0,3] [] hh ?_;clear hh h;intro h hh;repeat apply TW.seq
 refine rk [0,3,9] [] hh ?_;clear hh h;intro h hh;obtain ⟨s_,H1,H⟩:=zad H;repeat apply TW.seq
 refine cu [3] 0 (fun h bs=>(h 3=.int .u64 s_)∧bs=[]) ?_ ?_
 ·skip;rcases isp H1 with ⟨c1,H1⟩|⟨c1,H1⟩;rotate_left
  ·skip;repeat apply TW.seq
   refine cf (f2 hh (decide_eq_false c1)) ?_;repeat apply TW.seq
   refine sk ?_;cases H1;exact ce hh ⟨kq hh,rfl⟩
  repeat apply TW.seq
  refine ct (f2 hh (decide_eq_true c1)) ?_;repeat apply TW.seq
  refine rk [3] [] hh ?_;clear hh h;intro h hh;cases H1;exact ce hh ⟨kq hh,rfl⟩
 clear hh h;rintro h bs ⟨hh,rfl⟩;repeat apply TW.seq
 refine rk [3,4] [] hh ?_;clear hh h;intro h hh;refine vk 4 1 [3,4] hh ?_;clear hh h;intro h hh;obtain ⟨s_2,H1,H⟩:=zad H;repeat apply TW.seq
 refine cu [3,4] 1 (fun h bs=>(h 3=.int .u64 s_2.1∧h 4=.arr 0 1 0 s_2.2.2 s_2.2.2 s_2.2.2)∧bs=[.cells false s_2.2.2 (s_2.2.1.map (T.int .u8))]) ?_ ?_
 ·skip;repeat apply TW.seq
  apply TW.block;repeat apply TW.seq
  refine TW.loopT [3,4] (fun m h bs=>∃ (z:Int) (l:List Int) (n2:Nat),zdx k  m z l n2=some s_2∧(h 3=.int .u64 z∧h 4=.arr 0 1 0 n2 n2 n2)∧bs=[.cells false n2 (l.map (T.int .u8))]) ?_ k _ _ ?_;rotate_left
  ·exact ⟨s_,[],0,H1,kq hh,rfl⟩
  clear hh h H1;rintro m h bs ⟨z,l,n2,H1,hh,rfl⟩;rcases m with _|m
  ·rw [zdx] at H1;cases H1
  rw [zdx] at H1;repeat apply TW.seq
  refine rk [3,4,16] [] hh ?_;clear hh h;intro h hh;rcases isp H1 with ⟨c2,H1⟩|⟨c2,H1⟩;rotate_left
  ·skip;repeat apply TW.seq
   refine cf (f2 hh (decide_eq_false c2)) ?_;refine xk ?_;cases H1;exact ce hh ⟨kq hh,rfl⟩
  repeat apply TW.seq
  refine ct (f2 hh (decide_eq_true c2)) ?_;repeat apply TW.seq
  refine sk ?_;repeat apply TW.seq
  apply TW.block;obtain ⟨g3,H1⟩:=isg H1;obtain ⟨g4,H1⟩:=isg H1;repeat apply TW.seq
  refine rg [] [] [.cells false (n2+1) ((l++[IntKind.u8.wrap ((IntKind.u8.wrap (z % 128))+128)]).map (T.int .u8))] (fun h=>h 3=.int .u64 z∧h 4=.arr 0 1 0 (n2+1) (n2+1) (n2+1)) hh trivial ?_;clear hh h;intro h hh;repeat apply TW.seq
  refine rk [3,4] [] hh ?_;clear hh h;intro h hh;exact rd m hh ⟨(IntKind.u64.wrap (z / 128)),(l++[IntKind.u8.wrap ((IntKind.u8.wrap (z % 128))+128)]),(n2+1),H1,kq hh,rfl⟩
 clear hh h;rintro h bs ⟨hh,rfl⟩;obtain ⟨g5,H⟩:=isg H;repeat apply TW.seq
 refine rg [] [] [.cells false (s_2.2.2+1) ((s_2.2.1++[IntKind.u8.wrap (s_2.1)]).map (T.int .u8))] (fun h=>h 2=.arr 0 1 0 (s_2.2.2+1) (s_2.2.2+1) (s_2.2.2+1)) hh trivial ?_;clear hh h;intro h hh;obtain ⟨g6,H⟩:=isg H;refine TW.freeze 2 (b:=0) (e:=1) (off:=0) (len:=(s_2.2.2+1)) (cap:=(s_2.2.2+1)) (M:=(s_2.2.2+1)) ((s_2.2.1++[IntKind.u8.wrap (s_2.1)]).map (T.int .u8)) (kq hh) (by rfl) (by omega) (by omega) (by rw [List.drop_zero,Nat.mul_one,zbv (fun _=>rfl),List.take_of_length_le (by rw [List.length_map];omega)]) (fun t ht=>by obtain ⟨x,_,rfl⟩:=List.mem_map.1 ht;first|rfl|exact zd2 _|exact zci _|exact zbz _|exact zbe _ | (rw [List.length_map];rfl)) (by rw [List.length_map];exact g6) (by omega) ?_;rw [zeb _ _ _ (by simp only [lzA]<;>omega)];simp only [scA];refine gk [2] hh ?_;clear hh h;intro h hh;cases H;exact rt hh
def zei (k:Nat)  : Nat→Int→(List Int)→Nat→Option (Int×List Int×Nat)
 |0,_,_,_=>none
 |m+1,z,l,n2=>(if 128≤z then (if (0:Int)≤z∧0<128 then (if (n2+1)*2≤1000000000 then zei k  m (IntKind.u64.wrap (z / 128)) (l++[IntKind.u8.wrap ((IntKind.u8.wrap (z % 128))+128)]) (n2+1) else none) else none) else some (z,l,n2))
def zg3 (k:Nat) (n:Int):Option (List Int×Nat):=(((if n<0 then some (IntKind.u64.wrap ((IntKind.u64.wrap ((IntKind.u64.wrap (IntKind.i64.wrap ((-1) - n)))*2))+1)) else some (IntKind.u64.wrap ((IntKind.u64.wrap (n))*2))):Option Int).bind fun s_=>((zei k  k s_ [] 0:Option (Int×List Int×Nat)).bind fun s_2=>(if (s_2.2.2+1)*2≤1000000000 then some (s_2.2.1++[IntKind.u8.wrap (s_2.1)],s_2.2.2+1) else none)))
set_option maxHeartbeats 8000000 in
theorem zjm (ax:Axs) (hx:zb7 ax) (k:Nat) (n:Int) (v:List Int×Nat) (H:zg3 k n=some v):Call Tryz.prog (EE ax) [] 98 [.int .i64 n] (stL []) (tupT [.arr 0 1 0 v.2 v.2 v.2]) (stL [.cells false v.2 (v.1.map (T.int .u8))]):=by
 rw [zg3] at H;refine enBr [.tmp 2] 31 [0] (hx.no _ (by decide)) (fn98 ax) ?_;intro h hh;repeat apply TW.seq
 refine rk [0] [] hh ?_;clear hh h;intro h hh;repeat apply TW.seq
 refine rk [0,3] [] hh ?_;clear hh h;intro h hh;repeat apply TW.seq
 refine rk [0,3,9] [] hh ?_;clear hh h;intro h hh;obtain ⟨s_,H1,H⟩:=zad H;repeat apply TW.seq
 refine cu [3] 0 (fun h bs=>(h 3=.int .u64 s_)∧bs=[]) ?_ ?_
 ·skip;rcases isp H1 with ⟨c1,H1⟩|⟨c1,H1⟩;rotate_left
  ·skip;repeat apply TW.seq
   refine cf (f2 hh (decide_eq_false c1)) ?_;repeat apply TW.seq
   refine sk ?_;cases H1;exact ce hh ⟨kq hh,rfl⟩
  repeat apply TW.seq
  refine ct (f2 hh (decide_eq_true c1)) ?_;repeat apply TW.seq
  refine rk [3] [] hh ?_;clear hh h;intro h hh;cases H1;exact ce hh ⟨kq hh,rfl⟩
 clear hh h;rintro h bs ⟨hh,rfl⟩;repeat apply TW.seq
 refine rk [3,4] [] hh ?_;clear hh h;intro h hh;refine vk 4 1 [3,4] hh ?_;clear hh h;intro h hh;obtain ⟨s_2,H1,H⟩:=zad H;repeat apply TW.seq
 refine cu [3,4] 1 (fun h bs=>(h 3=.int .u64 s_2.1∧h 4=.arr 0 1 0 s_2.2.2 s_2.2.2 s_2.2.2)∧bs=[.cells false s_2.2.2 (s_2.2.1.map (T.int .u8))]) ?_ ?_
 ·skip;repeat apply TW.seq
  apply TW.block;repeat apply TW.seq
  refine TW.loopT [3,4] (fun m h bs=>∃ (z:Int) (l:List Int) (n2:Nat),zei k  m z l n2=some s_2∧(h 3=.int .u64 z∧h 4=.arr 0 1 0 n2 n2 n2)∧bs=[.cells false n2 (l.map (T.int .u8))]) ?_ k _ _ ?_;rotate_left
  ·exact ⟨s_,[],0,H1,kq hh,rfl⟩
  clear hh h H1;rintro m h bs ⟨z,l,n2,H1,hh,rfl⟩;rcases m with _|m
  ·rw [zei] at H1;cases H1
  rw [zei] at H1;repeat apply TW.seq
  refine rk [3,4,16] [] hh ?_;clear hh h;intro h hh;rcases isp H1 with ⟨c2,H1⟩|⟨c2,H1⟩;rotate_left
  ·skip;repeat apply TW.seq
   refine cf (f2 hh (decide_eq_false c2)) ?_;refine xk ?_;cases H1;exact ce hh ⟨kq hh,rfl⟩
  repeat apply TW.seq
  refine ct (f2 hh (decide_eq_true c2)) ?_;repeat apply TW.seq
  refine sk ?_;repeat apply TW.seq
  apply TW.block;obtain ⟨g3,H1⟩:=isg H1;obtain ⟨g4,H1⟩:=isg H1;repeat apply TW.seq
  refine rg [] [] [.cells false (n2+1) ((l++[IntKind.u8.wrap ((IntKind.u8.wrap (z % 128))+128)]).map (T.int .u8))] (fun h=>h 3=.int .u64 z∧h 4=.arr 0 1 0 (n2+1) (n2+1) (n2+1)) hh trivial ?_;clear hh h;intro h hh;repeat apply TW.seq
  refine rk [3,4] [] hh ?_;clear hh h;intro h hh;exact rd m hh ⟨(IntKind.u64.wrap (z / 128)),(l++[IntKind.u8.wrap ((IntKind.u8.wrap (z % 128))+128)]),(n2+1),H1,kq hh,rfl⟩
 clear hh h;rintro h bs ⟨hh,rfl⟩;obtain ⟨g5,H⟩:=isg H;repeat apply TW.seq
 refine rg [] [] [.cells false (s_2.2.2+1) ((s_2.2.1++[IntKind.u8.wrap (s_2.1)]).map (T.int .u8))] (fun h=>h 2=.arr 0 1 0 (s_2.2.2+1) (s_2.2.2+1) (s_2.2.2+1)) hh trivial ?_;clear hh h;intro h hh;cases H;exact rtB hh
def zcl (k:Nat) (l:List Int):Nat→Int→(List Int)→Nat→Option (List Int×Nat)
 |0,_,_,_=>none
 |m+1,k_,l2,n=>(if k_<(l.length:Int) then (if (0:Int)≤k_∧k_<(l.length:Int) then ((zhd k (gx l k_)).bind fun rInt=>(if (n+rInt.length)*2≤1000000000 then (if rInt.length=0 then zcl k l m (IntKind.i64.wrap (k_+1)) l2 n else zcl k l m (IntKind.i64.wrap (k_+1)) (l2++rInt) (n+rInt.length)) else none)) else none) else some (l2,n))
def zks (k:Nat) (l:List Int):Option (List Int):=((zg3 k (l.length:Int)).bind fun rb=>((zcl k l k 0 rb.1 rb.2:Option (List Int×Nat)).bind fun s_=>(if s_.1.length=s_.2 then some s_.1 else none)))
set_option maxHeartbeats 8000000 in
theorem zol (ax:Axs) (hx:zb7 ax) (k:Nat) (l:List Int) (v:List Int) (H:zks k l=some v):Pure Tryz.prog (EE ax) [] 99 [ints l] (byts v):=by
 rw [zks] at H;refine en [.tmp 2] 22 [0] (hx.no _ (by decide)) (fn99 ax) ?_;intro h hh;repeat apply TW.seq
 refine rk [0] [] hh ?_;clear hh h;intro h hh;obtain ⟨rb,e1,H⟩:=zad H;repeat apply TW.seq
 refine rkc [0,3] [] [(.arr 0 1 0 rb.2 rb.2 rb.2,stL [.cells false rb.2 (rb.1.map (T.int .u8))])] hh ?_ ?_
 ·exact ⟨car [0] (zjm ax hx k (l.length:Int) rb e1),trivial⟩
 clear hh h;intro h hh;repeat apply TW.seq
 refine rk [0,3,4] [] hh ?_;clear hh h;intro h hh;obtain ⟨s_,H1,H⟩:=zad H;repeat apply TW.seq
 refine cu [3] 1 (fun h bs=>(h 3=.arr 0 1 0 s_.2 s_.2 s_.2)∧bs=[.cells false s_.2 (s_.1.map (T.int .u8))]) ?_ ?_
 ·skip;repeat apply TW.seq
  apply TW.block;repeat apply TW.seq
  refine TW.loopT [0,3,4] (fun m h bs=>∃ (k_:Int) (l2:List Int) (n:Nat),zcl k l m k_ l2 n=some s_∧(h 0=ints l∧h 3=.arr 0 1 0 n n n∧h 4=.int .i64 k_)∧bs=[.cells false n (l2.map (T.int .u8))]) ?_ k _ _ ?_;rotate_left
  ·exact ⟨0,rb.1,rb.2,H1,kq hh,rfl⟩
  clear hh h H1;rintro m h bs ⟨k_,l2,n,H1,hh,rfl⟩;rcases m with _|m
  ·rw [zcl] at H1;cases H1
  rw [zcl] at H1;repeat apply TW.seq
  refine rk [0,3,4,11] [] hh ?_;clear hh h;intro h hh;rcases isp H1 with ⟨c2,H1⟩|⟨c2,H1⟩;rotate_left
  ·skip;repeat apply TW.seq
   refine cf (f2 hh (decide_eq_false c2)) ?_;refine xk ?_;cases H1;exact ce hh ⟨kq hh,rfl⟩
  repeat apply TW.seq
  refine ct (f2 hh (decide_eq_true c2)) ?_;repeat apply TW.seq
  refine sk ?_;repeat apply TW.seq
  apply TW.block;obtain ⟨g3,H1⟩:=isg H1;obtain ⟨rInt,e4,H1⟩:=zad H1;obtain ⟨g5,H1⟩:=isg H1;rcases isp H1 with ⟨c6,H1⟩|⟨c6,H1⟩;rotate_left
  ·skip;repeat apply TW.seq
   refine rg [] [(byts rInt,stL [.cells false n (l2.map (T.int .u8))])] [.cells false (n+rInt.length) ((l2++rInt).map (T.int .u8))] (fun h=>h 0=ints l∧h 3=.arr 0 1 0 (n+rInt.length) (n+rInt.length) (n+rInt.length)∧h 4=.int .i64 k_) (f2 hh (za7 g3)) ?_ ?_
   ·exact ⟨zau.call ((zdw ax hx k (gx l k_) rInt e4 ).call _),trivial⟩
   clear hh h;intro h hh;repeat apply TW.seq
   refine rk [0,3,4] [] hh ?_;clear hh h;intro h hh;exact rd m hh ⟨(IntKind.i64.wrap (k_+1)),(l2++rInt),(n+rInt.length),H1,kq hh,rfl⟩
  repeat apply TW.seq
  refine rg [] [(byts rInt,stL [.cells false n (l2.map (T.int .u8))])] [.cells false n (l2.map (T.int .u8))] (fun h=>h 0=ints l∧h 3=.arr 0 1 0 n n n∧h 4=.int .i64 k_) (f3 hh c6 (za7 g3)) ?_ ?_
  ·exact ⟨zau.call ((zdw ax hx k (gx l k_) rInt e4 ).call _),trivial⟩
  clear hh h;intro h hh;repeat apply TW.seq
  refine rk [0,3,4] [] (f2 hh c6) ?_;clear hh h;intro h hh;exact rd m hh ⟨(IntKind.i64.wrap (k_+1)),l2,n,H1,kq hh,rfl⟩
 clear hh h;rintro h bs ⟨hh,rfl⟩;repeat apply TW.seq
 refine rk [2] [] hh ?_;clear hh h;intro h hh;obtain ⟨g7,H⟩:=isg H;refine TW.freeze 2 (b:=0) (e:=1) (off:=0) (len:=s_.2) (cap:=s_.2) (M:=s_.2) (s_.1.map (T.int .u8)) (kq hh) (by rfl) (by omega) (by omega) (by rw [List.drop_zero,Nat.mul_one,zbv (fun _=>rfl),List.take_of_length_le (by rw [List.length_map];omega)]) (fun t ht=>by obtain ⟨x,_,rfl⟩:=List.mem_map.1 ht;first|rfl|exact zd2 _|exact zci _|exact zbz _|exact zbe _ | (rw [List.length_map];rfl)) (by rw [List.length_map];exact g7) (by omega) ?_;rw [zeb _ _ _ (by simp only [lzA]<;>omega)];simp only [scA];refine gk [2] hh ?_;clear hh h;intro h hh;cases H;exact rt hh
def zbm (k:Nat) (n0:Nat) (l0:List Int):Nat→Int→(List Int)→Nat→Option (List Int×Nat)
 |0,_,_,_=>none
 |m+1,k_,l,n=>(if k_<(n0:Int) then (if (0:Int)≤k_∧k_<(n0:Int) then (if k_.toNat<l0.length then ((zhd k (l0.getD k_.toNat default)).bind fun rInt=>(if (n+rInt.length)*2≤1000000000 then (if rInt.length=0 then zbm k n0 l0 m (IntKind.i64.wrap (k_+1)) l n else zbm k n0 l0 m (IntKind.i64.wrap (k_+1)) (l++rInt) (n+rInt.length)) else none)) else none) else none) else some (l,n))
def zie (k:Nat) (n0:Nat) (l0:List Int):Option (List Int):=((zg3 k (n0:Int)).bind fun rb=>((zbm k n0 l0 k 0 rb.1 rb.2:Option (List Int×Nat)).bind fun s_=>(if s_.1.length=s_.2 then some s_.1 else none)))
set_option maxHeartbeats 8000000 in
theorem zsd (ax:Axs) (hx:zb7 ax) (k:Nat) (n0:Nat) (l0:List Int) (v:List Int) (H:zie k n0 l0=some v):Call Tryz.prog (EE ax) [] 99 [.arr 0 1 0 n0 n0 n0] (stL [.cells false n0 (l0.map (T.int .i64))]) (tupT [byts v]) (stL [.cells false n0 (l0.map (T.int .i64))]):=by
 rw [zie] at H;refine enB [.tmp 2] 22 [0] (hx.no _ (by decide)) (fn99 ax) ?_;intro h hh;repeat apply TW.seq
 refine rk [0] [] hh ?_;clear hh h;intro h hh;obtain ⟨rb,e1,H⟩:=zad H;repeat apply TW.seq
 refine rkc [0,3] [] [(.arr 1 1 0 rb.2 rb.2 rb.2,stL [.cells false n0 (l0.map (T.int .i64)),.cells false rb.2 (rb.1.map (T.int .u8))])] hh ?_ ?_
 ·exact ⟨car [1] (zjm ax hx k (n0:Int) rb e1),trivial⟩
 clear hh h;intro h hh;repeat apply TW.seq
 refine rk [0,3,4] [] hh ?_;clear hh h;intro h hh;obtain ⟨s_,H1,H⟩:=zad H;repeat apply TW.seq
 refine cu [3] 2 (fun h bs=>(h 3=.arr 1 1 0 s_.2 s_.2 s_.2)∧bs=[.cells false n0 (l0.map (T.int .i64)),.cells false s_.2 (s_.1.map (T.int .u8))]) ?_ ?_
 ·skip;repeat apply TW.seq
  apply TW.block;repeat apply TW.seq
  refine TW.loopT [0,3,4] (fun m h bs=>∃ (k_:Int) (l:List Int) (n:Nat),zbm k n0 l0 m k_ l n=some s_∧(h 0=.arr 0 1 0 n0 n0 n0∧h 3=.arr 1 1 0 n n n∧h 4=.int .i64 k_)∧bs=[.cells false n0 (l0.map (T.int .i64)),.cells false n (l.map (T.int .u8))]) ?_ k _ _ ?_;rotate_left
  ·exact ⟨0,rb.1,rb.2,H1,kq hh,rfl⟩
  clear hh h H1;rintro m h bs ⟨k_,l,n,H1,hh,rfl⟩;rcases m with _|m
  ·rw [zbm] at H1;cases H1
  rw [zbm] at H1;repeat apply TW.seq
  refine rk [0,3,4,11] [] hh ?_;clear hh h;intro h hh;rcases isp H1 with ⟨c2,H1⟩|⟨c2,H1⟩;rotate_left
  ·skip;repeat apply TW.seq
   refine cf (f2 hh (decide_eq_false c2)) ?_;refine xk ?_;cases H1;exact ce hh ⟨kq hh,rfl⟩
  repeat apply TW.seq
  refine ct (f2 hh (decide_eq_true c2)) ?_;repeat apply TW.seq
  refine sk ?_;repeat apply TW.seq
  apply TW.block;obtain ⟨g3,H1⟩:=isg H1;obtain ⟨g4,H1⟩:=isg H1;obtain ⟨rInt,e5,H1⟩:=zad H1;obtain ⟨g6,H1⟩:=isg H1;rcases isp H1 with ⟨c7,H1⟩|⟨c7,H1⟩;rotate_left
  ·skip;repeat apply TW.seq
   refine rg [] [(byts rInt,stL [.cells false n0 (l0.map (T.int .i64)),.cells false n (l.map (T.int .u8))])] [.cells false n0 (l0.map (T.int .i64)),.cells false (n+rInt.length) ((l++rInt).map (T.int .u8))] (fun h=>h 0=.arr 0 1 0 n0 n0 n0∧h 3=.arr 1 1 0 (n+rInt.length) (n+rInt.length) (n+rInt.length)∧h 4=.int .i64 k_) (f2 hh (zvv g4)) ?_ ?_
   ·exact ⟨zau.call ((zdw ax hx k (l0.getD k_.toNat default) rInt e5 ).call _),trivial⟩
   clear hh h;intro h hh;repeat apply TW.seq
   refine rk [0,3,4] [] hh ?_;clear hh h;intro h hh;exact rd m hh ⟨(IntKind.i64.wrap (k_+1)),(l++rInt),(n+rInt.length),H1,kq hh,rfl⟩
  repeat apply TW.seq
  refine rg [] [(byts rInt,stL [.cells false n0 (l0.map (T.int .i64)),.cells false n (l.map (T.int .u8))])] [.cells false n0 (l0.map (T.int .i64)),.cells false n (l.map (T.int .u8))] (fun h=>h 0=.arr 0 1 0 n0 n0 n0∧h 3=.arr 1 1 0 n n n∧h 4=.int .i64 k_) (f3 hh c7 (zvv g4)) ?_ ?_
  ·exact ⟨zau.call ((zdw ax hx k (l0.getD k_.toNat default) rInt e5 ).call _),trivial⟩
  clear hh h;intro h hh;repeat apply TW.seq
  refine rk [0,3,4] [] (f2 hh c7) ?_;clear hh h;intro h hh;exact rd m hh ⟨(IntKind.i64.wrap (k_+1)),l,n,H1,kq hh,rfl⟩
 clear hh h;rintro h bs ⟨hh,rfl⟩;repeat apply TW.seq
 refine rk [2] [] hh ?_;clear hh h;intro h hh;obtain ⟨g8,H⟩:=isg H;refine TW.freeze 2 (b:=1) (e:=1) (off:=0) (len:=s_.2) (cap:=s_.2) (M:=s_.2) (s_.1.map (T.int .u8)) (kq hh) (by rfl) (by omega) (by omega) (by rw [List.drop_zero,Nat.mul_one,zbv (fun _=>rfl),List.take_of_length_le (by rw [List.length_map];omega)]) (fun t ht=>by obtain ⟨x,_,rfl⟩:=List.mem_map.1 ht;first|rfl|exact zd2 _|exact zci _|exact zbz _|exact zbe _ | (rw [List.length_map];rfl)) (by rw [List.length_map];exact g8) (by omega) ?_;rw [zeb _ _ _ (by simp only [lzA]<;>omega)];simp only [scA];refine gk [2] hh ?_;clear hh h;intro h hh;cases H;exact rtB hh
def zdk (k:Nat) (h_:Ar 10):Nat→Int→(List Int)→Nat→Option (List Int×Nat)
 |0,_,_,_=>none
 |m+1,k_,l,n=>(if k_<10 then (if (0:Int)≤k_∧k_<(10:Int) then (if (n+1)*9≤1000000000 then zdk k h_ m (IntKind.i64.wrap (k_+1)) (l++[gx h_.l k_]) (n+1) else none) else none) else some (l,n))
def zf3 (k:Nat) (h_:Ar 10):Option (List Int):=((zdk k h_ k 0 [] 0:Option (List Int×Nat)).bind fun s_=>((zie k s_.2 s_.1).bind fun rb=>some rb))
set_option maxHeartbeats 8000000 in
theorem zdj (ax:Axs) (hx:zb7 ax) (k:Nat) (h_:Ar 10) (v:List Int) (H:zf3 k h_=some v):Pure Tryz.prog (EE ax) [] 100 [.agg (h_.l.map (T.int .i64))] (byts v):=by
 rw [zf3] at H;refine en [.tmp 2] 17 [0] (hx.no _ (by decide)) (fn100 ax) ?_;intro h hh;repeat apply TW.seq
 refine rk [1] [] hh ?_;clear hh h;intro h hh;repeat apply TW.seq
 refine rk [1,3] [] hh ?_;clear hh h;intro h hh;refine vk 3 1 [1,3] hh ?_;clear hh h;intro h hh;repeat apply TW.seq
 refine rk [1,3,4] [] hh ?_;clear hh h;intro h hh;obtain ⟨s_,H1,H⟩:=zad H;repeat apply TW.seq
 refine cu [3] 2 (fun h bs=>(h 3=.arr 1 1 0 s_.2 s_.2 s_.2)∧bs=[.cells true 10 (h_.l.map (T.int .i64)),.cells false s_.2 (s_.1.map (T.int .i64))]) ?_ ?_
 ·skip;repeat apply TW.seq
  apply TW.block;repeat apply TW.seq
  refine TW.loopT [1,3,4] (fun m h bs=>∃ (k_:Int) (l:List Int) (n:Nat),zdk k h_ m k_ l n=some s_∧(h 1=.ptr 0 0 10∧h 3=.arr 1 1 0 n n n∧h 4=.int .i64 k_)∧bs=[.cells true 10 (h_.l.map (T.int .i64)),.cells false n (l.map (T.int .i64))]) ?_ k _ _ ?_;rotate_left
  ·exact ⟨0,[],0,H1,kq hh,rfl⟩
  clear hh h H1;rintro m h bs ⟨k_,l,n,H1,hh,rfl⟩;rcases m with _|m
  ·rw [zdk] at H1;cases H1
  rw [zdk] at H1;repeat apply TW.seq
  refine rk [1,3,4,6] [] hh ?_;clear hh h;intro h hh;rcases isp H1 with ⟨c1,H1⟩|⟨c1,H1⟩;rotate_left
  ·skip;repeat apply TW.seq
   refine cf (f2 hh (decide_eq_false c1)) ?_;refine xk ?_;cases H1;exact ce hh ⟨kq hh,rfl⟩
  repeat apply TW.seq
  refine ct (f2 hh (decide_eq_true c1)) ?_;repeat apply TW.seq
  refine sk ?_;repeat apply TW.seq
  apply TW.block;obtain ⟨g2,H1⟩:=isg H1;obtain ⟨g3,H1⟩:=isg H1;repeat apply TW.seq
  refine rg [] [] [.cells true 10 (h_.l.map (T.int .i64)),.cells false (n+1) ((l++[gx h_.l k_]).map (T.int .i64))] (fun h=>h 1=.ptr 0 0 10∧h 3=.arr 1 1 0 (n+1) (n+1) (n+1)∧h 4=.int .i64 k_) (f2 hh (arIx h_ g2)) trivial ?_;clear hh h;intro h hh;repeat apply TW.seq
  refine rk [1,3,4] [] hh ?_;clear hh h;intro h hh;exact rd m hh ⟨(IntKind.i64.wrap (k_+1)),(l++[gx h_.l k_]),(n+1),H1,kq hh,rfl⟩
 clear hh h;rintro h bs ⟨hh,rfl⟩;obtain ⟨rb,e4,H⟩:=zad H;repeat apply TW.seq
 refine rkc [2] [] [(byts rb,stL [.cells true 10 (h_.l.map (T.int .i64)),.cells false s_.2 (s_.1.map (T.int .i64))])] hh ?_ ?_
 ·exact ⟨ca [1] (zsd ax hx k s_.2 s_.1 rb e4),trivial⟩
 clear hh h;intro h hh;cases H;exact rt hh
def zbl (k:Nat) (t:List Rule) (k_:Int) (i:Int):Nat→Int→(List Int)→Nat→Option (List Int×Nat)
 |0,_,_,_=>none
 |m+1,j,l3,n3=>(if (0:Int)≤i∧i<(((gx t k_).outs).length:Int) then (if j<((gx ((gx t k_).outs) i).length:Int) then (if (0:Int)≤j∧j<((gx ((gx t k_).outs) i).length:Int) then ((((zhd k ((gx (gx ((gx t k_).outs) i) j).link)).bind fun rInt3=>(if (n3+rInt3.length)*2≤1000000000 then (if rInt3.length=0 then some (l3,n3) else some (l3++rInt3,n3+rInt3.length)) else none)):Option (List Int×Nat)).bind fun s_11=>((((zf3 k (((gx (gx ((gx t k_).outs) i) j).mod).mask)).bind fun rwords3=>(if (s_11.2+rwords3.length)*2≤1000000000 then (if rwords3.length=0 then some (s_11.1,s_11.2) else some (s_11.1++rwords3,s_11.2+rwords3.length)) else none)):Option (List Int×Nat)).bind fun s_12=>((zf3 k (((gx (gx ((gx t k_).outs) i) j).mod).bits)).bind fun rwords4=>(if (s_12.2+rwords4.length)*2≤1000000000 then (if rwords4.length=0 then zbl k t k_ i m (IntKind.i64.wrap (j+1)) s_12.1 s_12.2 else zbl k t k_ i m (IntKind.i64.wrap (j+1)) (s_12.1++rwords4) (s_12.2+rwords4.length)) else none)))) else none) else some (l3,n3)) else none)
def zcd (k:Nat) (t:List Rule) (k_:Int):Nat→Int→(List Int)→Nat→Option (List Int×Nat)
 |0,_,_,_=>none
 |m+1,i,l2,n2=>(if i<(((gx t k_).outs).length:Int) then (((((if (0:Int)≤i∧i<(((gx t k_).outs).length:Int) then ((zhd k ((gx ((gx t k_).outs) i).length:Int)).bind fun rInt2=>(if (n2+rInt2.length)*2≤1000000000 then (if rInt2.length=0 then some (l2,n2) else some (l2++rInt2,n2+rInt2.length)) else none)) else none):Option (List Int×Nat)).bind fun s_9=>((zbl k t k_ i k 0 s_9.1 s_9.2:Option (List Int×Nat)).bind fun s_10=>some (s_10.1,s_10.2))):Option (List Int×Nat)).bind fun s_8=>zcd k t k_ m (IntKind.i64.wrap (i+1)) s_8.1 s_8.2) else some (l2,n2))
def zce (k:Nat) (t:List Rule):Nat→Int→(List Int)→Nat→Option (List Int×Nat)
 |0,_,_,_=>none
 |m+1,k_,l,n=>(if k_<(t.length:Int) then (((if (0:Int)≤k_∧k_<(t.length:Int) then ((((zks k [(gx t k_).prio,(gx t k_).step]).bind fun rInts=>(if (n+rInts.length)*2≤1000000000 then (if rInts.length=0 then some (l,n) else some (l++rInts,n+rInts.length)) else none)):Option (List Int×Nat)).bind fun s_3=>((((zf3 k (((gx t k_).mat).mask)).bind fun rwords=>(if (s_3.2+rwords.length)*2≤1000000000 then (if rwords.length=0 then some (s_3.1,s_3.2) else some (s_3.1++rwords,s_3.2+rwords.length)) else none)):Option (List Int×Nat)).bind fun s_4=>((((zf3 k (((gx t k_).mat).bits)).bind fun rwords2=>(if (s_4.2+rwords2.length)*2≤1000000000 then (if rwords2.length=0 then some (s_4.1,s_4.2) else some (s_4.1++rwords2,s_4.2+rwords2.length)) else none)):Option (List Int×Nat)).bind fun s_5=>((((zhd k (((gx t k_).outs).length:Int)).bind fun rInt=>(if (s_5.2+rInt.length)*2≤1000000000 then (if rInt.length=0 then some (s_5.1,s_5.2) else some (s_5.1++rInt,s_5.2+rInt.length)) else none)):Option (List Int×Nat)).bind fun s_6=>((zcd k t k_ k 0 s_6.1 s_6.2:Option (List Int×Nat)).bind fun s_7=>some (s_7.1,s_7.2)))))) else none):Option (List Int×Nat)).bind fun s_2=>zce k t m (IntKind.i64.wrap (k_+1)) s_2.1 s_2.2) else some (l,n))
def zg1 (k:Nat) (t:List Rule):Option (List Int):=((zg3 k (t.length:Int)).bind fun rb=>((zce k t k 0 rb.1 rb.2:Option (List Int×Nat)).bind fun s_=>(if s_.1.length=s_.2 then some s_.1 else none)))
set_option maxHeartbeats 8000000 in
theorem zfn (ax:Axs) (hx:zb7 ax) (k:Nat) (t:List Rule) (v:List Int) (H:zg1 k t=some v):Pure Tryz.prog (EE ax) [] 44 [zat t] (byts v):=by
 rw [zg1] at H;refine en [.tmp 2] 100 [0] (hx.no _ (by decide)) (fn44 ax) ?_;intro h hh;repeat apply TW.seq
 refine rk [0] [] hh ?_;clear hh h;intro h hh;obtain ⟨rb,e1,H⟩:=zad H;repeat apply TW.seq
 refine rkc [0,3] [] [(.arr 0 1 0 rb.2 rb.2 rb.2,stL [.cells false rb.2 (rb.1.map (T.int .u8))])] hh ?_ ?_
 ·exact ⟨car [0] (zjm ax hx k (t.length:Int) rb e1),trivial⟩
 clear hh h;intro h hh;repeat apply TW.seq
 refine rk [0,3,4] [] hh ?_;clear hh h;intro h hh;obtain ⟨s_,H1,H⟩:=zad H;repeat apply TW.seq
 refine cu [3] 1 (fun h bs=>(h 3=.arr 0 1 0 s_.2 s_.2 s_.2)∧bs=[.cells false s_.2 (s_.1.map (T.int .u8))]) ?_ ?_
 ·skip;repeat apply TW.seq
  apply TW.block;repeat apply TW.seq
  refine TW.loopT [0,3,4] (fun m h bs=>∃ (k_:Int) (l:List Int) (n:Nat),zce k t m k_ l n=some s_∧(h 0=zat t∧h 3=.arr 0 1 0 n n n∧h 4=.int .i64 k_)∧bs=[.cells false n (l.map (T.int .u8))]) ?_ k _ _ ?_;rotate_left
  ·exact ⟨0,rb.1,rb.2,H1,kq hh,rfl⟩
  clear hh h H1;rintro m h bs ⟨k_,l,n,H1,hh,rfl⟩;rcases m with _|m
  ·rw [zce] at H1;cases H1
  rw [zce] at H1;repeat apply TW.seq
  refine rk [0,3,4,15] [] hh ?_;clear hh h;intro h hh;rcases isp H1 with ⟨c2,H1⟩|⟨c2,H1⟩;rotate_left
  ·skip;repeat apply TW.seq
   refine cf (f2 hh (decide_eq_false c2)) ?_;refine xk ?_;cases H1;exact ce hh ⟨kq hh,rfl⟩
  repeat apply TW.seq
  refine ct (f2 hh (decide_eq_true c2)) ?_;repeat apply TW.seq
  refine sk ?_;obtain ⟨s_2,H2,H1⟩:=zad H1;repeat apply TW.seq
  refine cu [0,3,4] 1 (fun h bs=>(h 0=zat t∧h 3=.arr 0 1 0 s_2.2 s_2.2 s_2.2∧h 4=.int .i64 k_)∧bs=[.cells false s_2.2 (s_2.1.map (T.int .u8))]) ?_ ?_
  ·skip;repeat apply TW.seq
   apply TW.block;obtain ⟨g3,H2⟩:=isg H2;repeat apply TW.seq
   refine rk [0,3,4,5] [] (f2 hh (za7 g3)) ?_;clear hh h;intro h hh;obtain ⟨s_3,H3,H2⟩:=zad H2;repeat apply TW.seq
   refine cu [0,3,4,5] 2 (fun h bs=>(h 0=zat t∧h 3=.arr 0 1 0 s_3.2 s_3.2 s_3.2∧h 4=.int .i64 k_∧h 5=.ptr 1 0 23)∧bs=[.cells false s_3.2 (s_3.1.map (T.int .u8)),.cells true 23 (T.int .i64 ((gx t k_).prio) :: ((((gx t k_).mat).mask).l.map (T.int .i64)++((((gx t k_).mat).bits).l.map (T.int .i64)++[T.int .i64 ((gx t k_).step),zaj ((gx t k_).outs)])))]) ?_ ?_
   ·skip;obtain ⟨rInts,e4,H3⟩:=zad H3;obtain ⟨g5,H3⟩:=isg H3;rcases isp H3 with ⟨c6,H3⟩|⟨c6,H3⟩;rotate_left
    ·skip;repeat apply TW.seq
     refine rg [] [(byts rInts,stL [.cells false n (l.map (T.int .u8)),.cells true 23 (T.int .i64 ((gx t k_).prio) :: ((((gx t k_).mat).mask).l.map (T.int .i64)++((((gx t k_).mat).bits).l.map (T.int .i64)++[T.int .i64 ((gx t k_).step),zaj ((gx t k_).outs)])))])] [.cells false (n+rInts.length) ((l++rInts).map (T.int .u8)),.cells true 23 (T.int .i64 ((gx t k_).prio) :: ((((gx t k_).mat).mask).l.map (T.int .i64)++((((gx t k_).mat).bits).l.map (T.int .i64)++[T.int .i64 ((gx t k_).step),zaj ((gx t k_).outs)])))] (fun h=>h 0=zat t∧h 3=.arr 0 1 0 (n+rInts.length) (n+rInts.length) (n+rInts.length)∧h 4=.int .i64 k_∧h 5=.ptr 1 0 23) hh ?_ ?_
     ·exact ⟨zau.call ((zol ax hx k [(gx t k_).prio,(gx t k_).step] rInts e4 ).call _),trivial⟩
     clear hh h;intro h hh;cases H3;exact ce hh ⟨kq hh,rfl⟩
    repeat apply TW.seq
    refine rg [] [(byts rInts,stL [.cells false n (l.map (T.int .u8)),.cells true 23 (T.int .i64 ((gx t k_).prio) :: ((((gx t k_).mat).mask).l.map (T.int .i64)++((((gx t k_).mat).bits).l.map (T.int .i64)++[T.int .i64 ((gx t k_).step),zaj ((gx t k_).outs)])))])] [.cells false n (l.map (T.int .u8)),.cells true 23 (T.int .i64 ((gx t k_).prio) :: ((((gx t k_).mat).mask).l.map (T.int .i64)++((((gx t k_).mat).bits).l.map (T.int .i64)++[T.int .i64 ((gx t k_).step),zaj ((gx t k_).outs)])))] (fun h=>h 0=zat t∧h 3=.arr 0 1 0 n n n∧h 4=.int .i64 k_∧h 5=.ptr 1 0 23) (f2 hh c6) ?_ ?_
    ·exact ⟨zau.call ((zol ax hx k [(gx t k_).prio,(gx t k_).step] rInts e4 ).call _),trivial⟩
    clear hh h;intro h hh;cases H3;exact ce hh ⟨kq hh,rfl⟩
   clear hh h;rintro h bs ⟨hh,rfl⟩;obtain ⟨s_4,H3,H2⟩:=zad H2;repeat apply TW.seq
   refine cu [0,3,4,5] 2 (fun h bs=>(h 0=zat t∧h 3=.arr 0 1 0 s_4.2 s_4.2 s_4.2∧h 4=.int .i64 k_∧h 5=.ptr 1 0 23)∧bs=[.cells false s_4.2 (s_4.1.map (T.int .u8)),.cells true 23 (T.int .i64 ((gx t k_).prio) :: ((((gx t k_).mat).mask).l.map (T.int .i64)++((((gx t k_).mat).bits).l.map (T.int .i64)++[T.int .i64 ((gx t k_).step),zaj ((gx t k_).outs)])))]) ?_ ?_
   ·skip;obtain ⟨rwords,e7,H3⟩:=zad H3;obtain ⟨g8,H3⟩:=isg H3;rcases isp H3 with ⟨c9,H3⟩|⟨c9,H3⟩;rotate_left
    ·skip;repeat apply TW.seq
     refine rg [] [(byts rwords,stL [.cells false s_3.2 (s_3.1.map (T.int .u8)),.cells true 23 (T.int .i64 ((gx t k_).prio) :: ((((gx t k_).mat).mask).l.map (T.int .i64)++((((gx t k_).mat).bits).l.map (T.int .i64)++[T.int .i64 ((gx t k_).step),zaj ((gx t k_).outs)])))])] [.cells false (s_3.2+rwords.length) ((s_3.1++rwords).map (T.int .u8)),.cells true 23 (T.int .i64 ((gx t k_).prio) :: ((((gx t k_).mat).mask).l.map (T.int .i64)++((((gx t k_).mat).bits).l.map (T.int .i64)++[T.int .i64 ((gx t k_).step),zaj ((gx t k_).outs)])))] (fun h=>h 0=zat t∧h 3=.arr 0 1 0 (s_3.2+rwords.length) (s_3.2+rwords.length) (s_3.2+rwords.length)∧h 4=.int .i64 k_∧h 5=.ptr 1 0 23) hh ?_ ?_
     ·exact ⟨zau.call ((zdj ax hx k (((gx t k_).mat).mask) rwords e7 ).call _),trivial⟩
     clear hh h;intro h hh;cases H3;exact ce hh ⟨kq hh,rfl⟩
    repeat apply TW.seq
    refine rg [] [(byts rwords,stL [.cells false s_3.2 (s_3.1.map (T.int .u8)),.cells true 23 (T.int .i64 ((gx t k_).prio) :: ((((gx t k_).mat).mask).l.map (T.int .i64)++((((gx t k_).mat).bits).l.map (T.int .i64)++[T.int .i64 ((gx t k_).step),zaj ((gx t k_).outs)])))])] [.cells false s_3.2 (s_3.1.map (T.int .u8)),.cells true 23 (T.int .i64 ((gx t k_).prio) :: ((((gx t k_).mat).mask).l.map (T.int .i64)++((((gx t k_).mat).bits).l.map (T.int .i64)++[T.int .i64 ((gx t k_).step),zaj ((gx t k_).outs)])))] (fun h=>h 0=zat t∧h 3=.arr 0 1 0 s_3.2 s_3.2 s_3.2∧h 4=.int .i64 k_∧h 5=.ptr 1 0 23) (f2 hh c9) ?_ ?_
    ·exact ⟨zau.call ((zdj ax hx k (((gx t k_).mat).mask) rwords e7 ).call _),trivial⟩
    clear hh h;intro h hh;cases H3;exact ce hh ⟨kq hh,rfl⟩
   clear hh h;rintro h bs ⟨hh,rfl⟩;obtain ⟨s_5,H3,H2⟩:=zad H2;repeat apply TW.seq
   refine cu [0,3,4,5] 2 (fun h bs=>(h 0=zat t∧h 3=.arr 0 1 0 s_5.2 s_5.2 s_5.2∧h 4=.int .i64 k_∧h 5=.ptr 1 0 23)∧bs=[.cells false s_5.2 (s_5.1.map (T.int .u8)),.cells true 23 (T.int .i64 ((gx t k_).prio) :: ((((gx t k_).mat).mask).l.map (T.int .i64)++((((gx t k_).mat).bits).l.map (T.int .i64)++[T.int .i64 ((gx t k_).step),zaj ((gx t k_).outs)])))]) ?_ ?_
   ·skip;obtain ⟨rwords2,e10,H3⟩:=zad H3;obtain ⟨g11,H3⟩:=isg H3;rcases isp H3 with ⟨c12,H3⟩|⟨c12,H3⟩;rotate_left
    ·skip;repeat apply TW.seq
     refine rg [] [(byts rwords2,stL [.cells false s_4.2 (s_4.1.map (T.int .u8)),.cells true 23 (T.int .i64 ((gx t k_).prio) :: ((((gx t k_).mat).mask).l.map (T.int .i64)++((((gx t k_).mat).bits).l.map (T.int .i64)++[T.int .i64 ((gx t k_).step),zaj ((gx t k_).outs)])))])] [.cells false (s_4.2+rwords2.length) ((s_4.1++rwords2).map (T.int .u8)),.cells true 23 (T.int .i64 ((gx t k_).prio) :: ((((gx t k_).mat).mask).l.map (T.int .i64)++((((gx t k_).mat).bits).l.map (T.int .i64)++[T.int .i64 ((gx t k_).step),zaj ((gx t k_).outs)])))] (fun h=>h 0=zat t∧h 3=.arr 0 1 0 (s_4.2+rwords2.length) (s_4.2+rwords2.length) (s_4.2+rwords2.length)∧h 4=.int .i64 k_∧h 5=.ptr 1 0 23) hh ?_ ?_
     ·exact ⟨zau.call ((zdj ax hx k (((gx t k_).mat).bits) rwords2 e10 ).call _),trivial⟩
     clear hh h;intro h hh;cases H3;exact ce hh ⟨kq hh,rfl⟩
    repeat apply TW.seq
    refine rg [] [(byts rwords2,stL [.cells false s_4.2 (s_4.1.map (T.int .u8)),.cells true 23 (T.int .i64 ((gx t k_).prio) :: ((((gx t k_).mat).mask).l.map (T.int .i64)++((((gx t k_).mat).bits).l.map (T.int .i64)++[T.int .i64 ((gx t k_).step),zaj ((gx t k_).outs)])))])] [.cells false s_4.2 (s_4.1.map (T.int .u8)),.cells true 23 (T.int .i64 ((gx t k_).prio) :: ((((gx t k_).mat).mask).l.map (T.int .i64)++((((gx t k_).mat).bits).l.map (T.int .i64)++[T.int .i64 ((gx t k_).step),zaj ((gx t k_).outs)])))] (fun h=>h 0=zat t∧h 3=.arr 0 1 0 s_4.2 s_4.2 s_4.2∧h 4=.int .i64 k_∧h 5=.ptr 1 0 23) (f2 hh c12) ?_ ?_
    ·exact ⟨zau.call ((zdj ax hx k (((gx t k_).mat).bits) rwords2 e10 ).call _),trivial⟩
    clear hh h;intro h hh;cases H3;exact ce hh ⟨kq hh,rfl⟩
   clear hh h;rintro h bs ⟨hh,rfl⟩;obtain ⟨s_6,H3,H2⟩:=zad H2;repeat apply TW.seq
   refine cu [0,3,4,5] 2 (fun h bs=>(h 0=zat t∧h 3=.arr 0 1 0 s_6.2 s_6.2 s_6.2∧h 4=.int .i64 k_∧h 5=.ptr 1 0 23)∧bs=[.cells false s_6.2 (s_6.1.map (T.int .u8)),.cells true 23 (T.int .i64 ((gx t k_).prio) :: ((((gx t k_).mat).mask).l.map (T.int .i64)++((((gx t k_).mat).bits).l.map (T.int .i64)++[T.int .i64 ((gx t k_).step),zaj ((gx t k_).outs)])))]) ?_ ?_
   ·skip;obtain ⟨rInt,e13,H3⟩:=zad H3;obtain ⟨g14,H3⟩:=isg H3;rcases isp H3 with ⟨c15,H3⟩|⟨c15,H3⟩;rotate_left
    ·skip;repeat apply TW.seq
     refine rg [] [(byts rInt,stL [.cells false s_5.2 (s_5.1.map (T.int .u8)),.cells true 23 (T.int .i64 ((gx t k_).prio) :: ((((gx t k_).mat).mask).l.map (T.int .i64)++((((gx t k_).mat).bits).l.map (T.int .i64)++[T.int .i64 ((gx t k_).step),zaj ((gx t k_).outs)])))])] [.cells false (s_5.2+rInt.length) ((s_5.1++rInt).map (T.int .u8)),.cells true 23 (T.int .i64 ((gx t k_).prio) :: ((((gx t k_).mat).mask).l.map (T.int .i64)++((((gx t k_).mat).bits).l.map (T.int .i64)++[T.int .i64 ((gx t k_).step),zaj ((gx t k_).outs)])))] (fun h=>h 0=zat t∧h 3=.arr 0 1 0 (s_5.2+rInt.length) (s_5.2+rInt.length) (s_5.2+rInt.length)∧h 4=.int .i64 k_∧h 5=.ptr 1 0 23) hh ?_ ?_
     ·exact ⟨zau.call ((zdw ax hx k (((gx t k_).outs).length:Int) rInt e13 ).call _),trivial⟩
     clear hh h;intro h hh;cases H3;exact ce hh ⟨kq hh,rfl⟩
    repeat apply TW.seq
    refine rg [] [(byts rInt,stL [.cells false s_5.2 (s_5.1.map (T.int .u8)),.cells true 23 (T.int .i64 ((gx t k_).prio) :: ((((gx t k_).mat).mask).l.map (T.int .i64)++((((gx t k_).mat).bits).l.map (T.int .i64)++[T.int .i64 ((gx t k_).step),zaj ((gx t k_).outs)])))])] [.cells false s_5.2 (s_5.1.map (T.int .u8)),.cells true 23 (T.int .i64 ((gx t k_).prio) :: ((((gx t k_).mat).mask).l.map (T.int .i64)++((((gx t k_).mat).bits).l.map (T.int .i64)++[T.int .i64 ((gx t k_).step),zaj ((gx t k_).outs)])))] (fun h=>h 0=zat t∧h 3=.arr 0 1 0 s_5.2 s_5.2 s_5.2∧h 4=.int .i64 k_∧h 5=.ptr 1 0 23) (f2 hh c15) ?_ ?_
    ·exact ⟨zau.call ((zdw ax hx k (((gx t k_).outs).length:Int) rInt e13 ).call _),trivial⟩
    clear hh h;intro h hh;cases H3;exact ce hh ⟨kq hh,rfl⟩
   clear hh h;rintro h bs ⟨hh,rfl⟩;repeat apply TW.seq
   refine rk [0,3,4,5,6] [] hh ?_;clear hh h;intro h hh;obtain ⟨s_7,H3,H2⟩:=zad H2;repeat apply TW.seq
   refine cu [0,3,4] 2 (fun h bs=>(h 0=zat t∧h 3=.arr 0 1 0 s_7.2 s_7.2 s_7.2∧h 4=.int .i64 k_)∧bs=[.cells false s_7.2 (s_7.1.map (T.int .u8)),.cells true 23 (T.int .i64 ((gx t k_).prio) :: ((((gx t k_).mat).mask).l.map (T.int .i64)++((((gx t k_).mat).bits).l.map (T.int .i64)++[T.int .i64 ((gx t k_).step),zaj ((gx t k_).outs)])))]) ?_ ?_
   ·skip;repeat apply TW.seq
    apply TW.block;repeat apply TW.seq
    refine TW.loopT [0,3,4,5,6] (fun m h bs=>∃ (i:Int) (l2:List Int) (n2:Nat),zcd k t k_ m i l2 n2=some s_7∧(h 0=zat t∧h 3=.arr 0 1 0 n2 n2 n2∧h 4=.int .i64 k_∧h 5=.ptr 1 0 23∧h 6=.int .i64 i)∧bs=[.cells false n2 (l2.map (T.int .u8)),.cells true 23 (T.int .i64 ((gx t k_).prio) :: ((((gx t k_).mat).mask).l.map (T.int .i64)++((((gx t k_).mat).bits).l.map (T.int .i64)++[T.int .i64 ((gx t k_).step),zaj ((gx t k_).outs)])))]) ?_ k _ _ ?_;rotate_left
    ·exact ⟨0,s_6.1,s_6.2,H3,kq hh,rfl⟩
    clear hh h H3;rintro m h bs ⟨i,l2,n2,H3,hh,rfl⟩;rcases m with _|m
    ·rw [zcd] at H3;cases H3
    rw [zcd] at H3;repeat apply TW.seq
    refine rk [0,3,4,5,6,52] [] hh ?_;clear hh h;intro h hh;rcases isp H3 with ⟨c16,H3⟩|⟨c16,H3⟩;rotate_left
    ·skip;repeat apply TW.seq
     refine cf (f2 hh (decide_eq_false c16)) ?_;refine xk ?_;cases H3;exact ce hh ⟨kq hh,rfl⟩
    repeat apply TW.seq
    refine ct (f2 hh (decide_eq_true c16)) ?_;repeat apply TW.seq
    refine sk ?_;obtain ⟨s_8,H4,H3⟩:=zad H3;repeat apply TW.seq
    refine cu [0,3,4,5,6] 2 (fun h bs=>(h 0=zat t∧h 3=.arr 0 1 0 s_8.2 s_8.2 s_8.2∧h 4=.int .i64 k_∧h 5=.ptr 1 0 23∧h 6=.int .i64 i)∧bs=[.cells false s_8.2 (s_8.1.map (T.int .u8)),.cells true 23 (T.int .i64 ((gx t k_).prio) :: ((((gx t k_).mat).mask).l.map (T.int .i64)++((((gx t k_).mat).bits).l.map (T.int .i64)++[T.int .i64 ((gx t k_).step),zaj ((gx t k_).outs)])))]) ?_ ?_
    ·skip;repeat apply TW.seq
     apply TW.block;obtain ⟨s_9,H5,H4⟩:=zad H4;repeat apply TW.seq
     refine cu [0,3,4,5,6] 2 (fun h bs=>(h 0=zat t∧h 3=.arr 0 1 0 s_9.2 s_9.2 s_9.2∧h 4=.int .i64 k_∧h 5=.ptr 1 0 23∧h 6=.int .i64 i)∧bs=[.cells false s_9.2 (s_9.1.map (T.int .u8)),.cells true 23 (T.int .i64 ((gx t k_).prio) :: ((((gx t k_).mat).mask).l.map (T.int .i64)++((((gx t k_).mat).bits).l.map (T.int .i64)++[T.int .i64 ((gx t k_).step),zaj ((gx t k_).outs)])))]) ?_ ?_
     ·skip;obtain ⟨g17,H5⟩:=isg H5;obtain ⟨rInt2,e18,H5⟩:=zad H5;obtain ⟨g19,H5⟩:=isg H5;rcases isp H5 with ⟨c20,H5⟩|⟨c20,H5⟩;rotate_left
      ·skip;repeat apply TW.seq
       refine rg [] [(byts rInt2,stL [.cells false n2 (l2.map (T.int .u8)),.cells true 23 (T.int .i64 ((gx t k_).prio) :: ((((gx t k_).mat).mask).l.map (T.int .i64)++((((gx t k_).mat).bits).l.map (T.int .i64)++[T.int .i64 ((gx t k_).step),zaj ((gx t k_).outs)])))])] [.cells false (n2+rInt2.length) ((l2++rInt2).map (T.int .u8)),.cells true 23 (T.int .i64 ((gx t k_).prio) :: ((((gx t k_).mat).mask).l.map (T.int .i64)++((((gx t k_).mat).bits).l.map (T.int .i64)++[T.int .i64 ((gx t k_).step),zaj ((gx t k_).outs)])))] (fun h=>h 0=zat t∧h 3=.arr 0 1 0 (n2+rInt2.length) (n2+rInt2.length) (n2+rInt2.length)∧h 4=.int .i64 k_∧h 5=.ptr 1 0 23∧h 6=.int .i64 i) (f2 hh (za7 g17)) ?_ ?_
       ·exact ⟨zau.call ((zdw ax hx k ((gx ((gx t k_).outs) i).length:Int) rInt2 e18 ).call _),trivial⟩
       clear hh h;intro h hh;cases H5;exact ce hh ⟨kq hh,rfl⟩
      repeat apply TW.seq
      refine rg [] [(byts rInt2,stL [.cells false n2 (l2.map (T.int .u8)),.cells true 23 (T.int .i64 ((gx t k_).prio) :: ((((gx t k_).mat).mask).l.map (T.int .i64)++((((gx t k_).mat).bits).l.map (T.int .i64)++[T.int .i64 ((gx t k_).step),zaj ((gx t k_).outs)])))])] [.cells false n2 (l2.map (T.int .u8)),.cells true 23 (T.int .i64 ((gx t k_).prio) :: ((((gx t k_).mat).mask).l.map (T.int .i64)++((((gx t k_).mat).bits).l.map (T.int .i64)++[T.int .i64 ((gx t k_).step),zaj ((gx t k_).outs)])))] (fun h=>h 0=zat t∧h 3=.arr 0 1 0 n2 n2 n2∧h 4=.int .i64 k_∧h 5=.ptr 1 0 23∧h 6=.int .i64 i) (f3 hh c20 (za7 g17)) ?_ ?_
      ·exact ⟨zau.call ((zdw ax hx k ((gx ((gx t k_).outs) i).length:Int) rInt2 e18 ).call _),trivial⟩
      clear hh h;intro h hh;cases H5;exact ce hh ⟨kq hh,rfl⟩
     clear hh h;rintro h bs ⟨hh,rfl⟩;repeat apply TW.seq
     refine rk [0,3,4,5,6,7] [] hh ?_;clear hh h;intro h hh;obtain ⟨s_10,H5,H4⟩:=zad H4;repeat apply TW.seq
     refine cu [0,3,4,5,6] 2 (fun h bs=>(h 0=zat t∧h 3=.arr 0 1 0 s_10.2 s_10.2 s_10.2∧h 4=.int .i64 k_∧h 5=.ptr 1 0 23∧h 6=.int .i64 i)∧bs=[.cells false s_10.2 (s_10.1.map (T.int .u8)),.cells true 23 (T.int .i64 ((gx t k_).prio) :: ((((gx t k_).mat).mask).l.map (T.int .i64)++((((gx t k_).mat).bits).l.map (T.int .i64)++[T.int .i64 ((gx t k_).step),zaj ((gx t k_).outs)])))]) ?_ ?_
     ·skip;repeat apply TW.seq
      apply TW.block;repeat apply TW.seq
      refine TW.loopT [0,3,4,5,6,7] (fun m h bs=>∃ (j:Int) (l3:List Int) (n3:Nat),zbl k t k_ i m j l3 n3=some s_10∧(h 0=zat t∧h 3=.arr 0 1 0 n3 n3 n3∧h 4=.int .i64 k_∧h 5=.ptr 1 0 23∧h 6=.int .i64 i∧h 7=.int .i64 j)∧bs=[.cells false n3 (l3.map (T.int .u8)),.cells true 23 (T.int .i64 ((gx t k_).prio) :: ((((gx t k_).mat).mask).l.map (T.int .i64)++((((gx t k_).mat).bits).l.map (T.int .i64)++[T.int .i64 ((gx t k_).step),zaj ((gx t k_).outs)])))]) ?_ k _ _ ?_;rotate_left
      ·exact ⟨0,s_9.1,s_9.2,H5,kq hh,rfl⟩
      clear hh h H5;rintro m h bs ⟨j,l3,n3,H5,hh,rfl⟩;rcases m with _|m
      ·rw [zbl] at H5;cases H5
      rw [zbl] at H5;obtain ⟨g21,H5⟩:=isg H5;repeat apply TW.seq
      refine rk [0,3,4,5,6,7,71] [] (f2 hh (za7 g21)) ?_;clear hh h;intro h hh;rcases isp H5 with ⟨c22,H5⟩|⟨c22,H5⟩;rotate_left
      ·skip;repeat apply TW.seq
       refine cf (f2 hh (decide_eq_false c22)) ?_;refine xk ?_;cases H5;exact ce hh ⟨kq hh,rfl⟩
      repeat apply TW.seq
      refine ct (f2 hh (decide_eq_true c22)) ?_;repeat apply TW.seq
      refine sk ?_;repeat apply TW.seq
      apply TW.block;obtain ⟨g23,H5⟩:=isg H5;repeat apply TW.seq
      refine rk [0,3,4,5,6,7,8] [] (f3 hh (za7 g21) (za7 g23)) ?_;clear hh h;intro h hh;obtain ⟨s_11,H6,H5⟩:=zad H5;repeat apply TW.seq
      refine cu [0,3,4,5,6,7,8] 3 (fun h bs=>(h 0=zat t∧h 3=.arr 0 1 0 s_11.2 s_11.2 s_11.2∧h 4=.int .i64 k_∧h 5=.ptr 1 0 23∧h 6=.int .i64 i∧h 7=.int .i64 j∧h 8=.ptr 2 0 21)∧bs=[.cells false s_11.2 (s_11.1.map (T.int .u8)),.cells true 23 (T.int .i64 ((gx t k_).prio) :: ((((gx t k_).mat).mask).l.map (T.int .i64)++((((gx t k_).mat).bits).l.map (T.int .i64)++[T.int .i64 ((gx t k_).step),zaj ((gx t k_).outs)]))),.cells true 21 (T.int .i64 ((gx (gx ((gx t k_).outs) i) j).link) :: ((((gx (gx ((gx t k_).outs) i) j).mod).mask).l.map (T.int .i64)++((((gx (gx ((gx t k_).outs) i) j).mod).bits).l.map (T.int .i64))))]) ?_ ?_
      ·skip;obtain ⟨rInt3,e24,H6⟩:=zad H6;obtain ⟨g25,H6⟩:=isg H6;rcases isp H6 with ⟨c26,H6⟩|⟨c26,H6⟩;rotate_left
       ·skip;repeat apply TW.seq
        refine rg [] [(byts rInt3,stL [.cells false n3 (l3.map (T.int .u8)),.cells true 23 (T.int .i64 ((gx t k_).prio) :: ((((gx t k_).mat).mask).l.map (T.int .i64)++((((gx t k_).mat).bits).l.map (T.int .i64)++[T.int .i64 ((gx t k_).step),zaj ((gx t k_).outs)]))),.cells true 21 (T.int .i64 ((gx (gx ((gx t k_).outs) i) j).link) :: ((((gx (gx ((gx t k_).outs) i) j).mod).mask).l.map (T.int .i64)++((((gx (gx ((gx t k_).outs) i) j).mod).bits).l.map (T.int .i64))))])] [.cells false (n3+rInt3.length) ((l3++rInt3).map (T.int .u8)),.cells true 23 (T.int .i64 ((gx t k_).prio) :: ((((gx t k_).mat).mask).l.map (T.int .i64)++((((gx t k_).mat).bits).l.map (T.int .i64)++[T.int .i64 ((gx t k_).step),zaj ((gx t k_).outs)]))),.cells true 21 (T.int .i64 ((gx (gx ((gx t k_).outs) i) j).link) :: ((((gx (gx ((gx t k_).outs) i) j).mod).mask).l.map (T.int .i64)++((((gx (gx ((gx t k_).outs) i) j).mod).bits).l.map (T.int .i64))))] (fun h=>h 0=zat t∧h 3=.arr 0 1 0 (n3+rInt3.length) (n3+rInt3.length) (n3+rInt3.length)∧h 4=.int .i64 k_∧h 5=.ptr 1 0 23∧h 6=.int .i64 i∧h 7=.int .i64 j∧h 8=.ptr 2 0 21) hh ?_ ?_
        ·exact ⟨zau.call ((zdw ax hx k ((gx (gx ((gx t k_).outs) i) j).link) rInt3 e24 ).call _),trivial⟩
        clear hh h;intro h hh;cases H6;exact ce hh ⟨kq hh,rfl⟩
       repeat apply TW.seq
       refine rg [] [(byts rInt3,stL [.cells false n3 (l3.map (T.int .u8)),.cells true 23 (T.int .i64 ((gx t k_).prio) :: ((((gx t k_).mat).mask).l.map (T.int .i64)++((((gx t k_).mat).bits).l.map (T.int .i64)++[T.int .i64 ((gx t k_).step),zaj ((gx t k_).outs)]))),.cells true 21 (T.int .i64 ((gx (gx ((gx t k_).outs) i) j).link) :: ((((gx (gx ((gx t k_).outs) i) j).mod).mask).l.map (T.int .i64)++((((gx (gx ((gx t k_).outs) i) j).mod).bits).l.map (T.int .i64))))])] [.cells false n3 (l3.map (T.int .u8)),.cells true 23 (T.int .i64 ((gx t k_).prio) :: ((((gx t k_).mat).mask).l.map (T.int .i64)++((((gx t k_).mat).bits).l.map (T.int .i64)++[T.int .i64 ((gx t k_).step),zaj ((gx t k_).outs)]))),.cells true 21 (T.int .i64 ((gx (gx ((gx t k_).outs) i) j).link) :: ((((gx (gx ((gx t k_).outs) i) j).mod).mask).l.map (T.int .i64)++((((gx (gx ((gx t k_).outs) i) j).mod).bits).l.map (T.int .i64))))] (fun h=>h 0=zat t∧h 3=.arr 0 1 0 n3 n3 n3∧h 4=.int .i64 k_∧h 5=.ptr 1 0 23∧h 6=.int .i64 i∧h 7=.int .i64 j∧h 8=.ptr 2 0 21) (f2 hh c26) ?_ ?_
       ·exact ⟨zau.call ((zdw ax hx k ((gx (gx ((gx t k_).outs) i) j).link) rInt3 e24 ).call _),trivial⟩
       clear hh h;intro h hh;cases H6;exact ce hh ⟨kq hh,rfl⟩
      clear hh h;rintro h bs ⟨hh,rfl⟩;obtain ⟨s_12,H6,H5⟩:=zad H5;repeat apply TW.seq
      refine cu [0,3,4,5,6,7,8] 3 (fun h bs=>(h 0=zat t∧h 3=.arr 0 1 0 s_12.2 s_12.2 s_12.2∧h 4=.int .i64 k_∧h 5=.ptr 1 0 23∧h 6=.int .i64 i∧h 7=.int .i64 j∧h 8=.ptr 2 0 21)∧bs=[.cells false s_12.2 (s_12.1.map (T.int .u8)),.cells true 23 (T.int .i64 ((gx t k_).prio) :: ((((gx t k_).mat).mask).l.map (T.int .i64)++((((gx t k_).mat).bits).l.map (T.int .i64)++[T.int .i64 ((gx t k_).step),zaj ((gx t k_).outs)]))),.cells true 21 (T.int .i64 ((gx (gx ((gx t k_).outs) i) j).link) :: ((((gx (gx ((gx t k_).outs) i) j).mod).mask).l.map (T.int .i64)++((((gx (gx ((gx t k_).outs) i) j).mod).bits).l.map (T.int .i64))))]) ?_ ?_
      ·skip;obtain ⟨rwords3,e27,H6⟩:=zad H6;obtain ⟨g28,H6⟩:=isg H6;rcases isp H6 with ⟨c29,H6⟩|⟨c29,H6⟩;rotate_left
       ·skip;repeat apply TW.seq
        refine rg [] [(byts rwords3,stL [.cells false s_11.2 (s_11.1.map (T.int .u8)),.cells true 23 (T.int .i64 ((gx t k_).prio) :: ((((gx t k_).mat).mask).l.map (T.int .i64)++((((gx t k_).mat).bits).l.map (T.int .i64)++[T.int .i64 ((gx t k_).step),zaj ((gx t k_).outs)]))),.cells true 21 (T.int .i64 ((gx (gx ((gx t k_).outs) i) j).link) :: ((((gx (gx ((gx t k_).outs) i) j).mod).mask).l.map (T.int .i64)++((((gx (gx ((gx t k_).outs) i) j).mod).bits).l.map (T.int .i64))))])] [.cells false (s_11.2+rwords3.length) ((s_11.1++rwords3).map (T.int .u8)),.cells true 23 (T.int .i64 ((gx t k_).prio) :: ((((gx t k_).mat).mask).l.map (T.int .i64)++((((gx t k_).mat).bits).l.map (T.int .i64)++[T.int .i64 ((gx t k_).step),zaj ((gx t k_).outs)]))),.cells true 21 (T.int .i64 ((gx (gx ((gx t k_).outs) i) j).link) :: ((((gx (gx ((gx t k_).outs) i) j).mod).mask).l.map (T.int .i64)++((((gx (gx ((gx t k_).outs) i) j).mod).bits).l.map (T.int .i64))))] (fun h=>h 0=zat t∧h 3=.arr 0 1 0 (s_11.2+rwords3.length) (s_11.2+rwords3.length) (s_11.2+rwords3.length)∧h 4=.int .i64 k_∧h 5=.ptr 1 0 23∧h 6=.int .i64 i∧h 7=.int .i64 j∧h 8=.ptr 2 0 21) hh ?_ ?_
        ·exact ⟨zau.call ((zdj ax hx k (((gx (gx ((gx t k_).outs) i) j).mod).mask) rwords3 e27 ).call _),trivial⟩
        clear hh h;intro h hh;cases H6;exact ce hh ⟨kq hh,rfl⟩
       repeat apply TW.seq
       refine rg [] [(byts rwords3,stL [.cells false s_11.2 (s_11.1.map (T.int .u8)),.cells true 23 (T.int .i64 ((gx t k_).prio) :: ((((gx t k_).mat).mask).l.map (T.int .i64)++((((gx t k_).mat).bits).l.map (T.int .i64)++[T.int .i64 ((gx t k_).step),zaj ((gx t k_).outs)]))),.cells true 21 (T.int .i64 ((gx (gx ((gx t k_).outs) i) j).link) :: ((((gx (gx ((gx t k_).outs) i) j).mod).mask).l.map (T.int .i64)++((((gx (gx ((gx t k_).outs) i) j).mod).bits).l.map (T.int .i64))))])] [.cells false s_11.2 (s_11.1.map (T.int .u8)),.cells true 23 (T.int .i64 ((gx t k_).prio) :: ((((gx t k_).mat).mask).l.map (T.int .i64)++((((gx t k_).mat).bits).l.map (T.int .i64)++[T.int .i64 ((gx t k_).step),zaj ((gx t k_).outs)]))),.cells true 21 (T.int .i64 ((gx (gx ((gx t k_).outs) i) j).link) :: ((((gx (gx ((gx t k_).outs) i) j).mod).mask).l.map (T.int .i64)++((((gx (gx ((gx t k_).outs) i) j).mod).bits).l.map (T.int .i64))))] (fun h=>h 0=zat t∧h 3=.arr 0 1 0 s_11.2 s_11.2 s_11.2∧h 4=.int .i64 k_∧h 5=.ptr 1 0 23∧h 6=.int .i64 i∧h 7=.int .i64 j∧h 8=.ptr 2 0 21) (f2 hh c29) ?_ ?_
       ·exact ⟨zau.call ((zdj ax hx k (((gx (gx ((gx t k_).outs) i) j).mod).mask) rwords3 e27 ).call _),trivial⟩
       clear hh h;intro h hh;cases H6;exact ce hh ⟨kq hh,rfl⟩
      clear hh h;rintro h bs ⟨hh,rfl⟩;obtain ⟨rwords4,e30,H5⟩:=zad H5;obtain ⟨g31,H5⟩:=isg H5;rcases isp H5 with ⟨c32,H5⟩|⟨c32,H5⟩;rotate_left
      ·skip;repeat apply TW.seq
       refine rg [] [(byts rwords4,stL [.cells false s_12.2 (s_12.1.map (T.int .u8)),.cells true 23 (T.int .i64 ((gx t k_).prio) :: ((((gx t k_).mat).mask).l.map (T.int .i64)++((((gx t k_).mat).bits).l.map (T.int .i64)++[T.int .i64 ((gx t k_).step),zaj ((gx t k_).outs)]))),.cells true 21 (T.int .i64 ((gx (gx ((gx t k_).outs) i) j).link) :: ((((gx (gx ((gx t k_).outs) i) j).mod).mask).l.map (T.int .i64)++((((gx (gx ((gx t k_).outs) i) j).mod).bits).l.map (T.int .i64))))])] [.cells false (s_12.2+rwords4.length) ((s_12.1++rwords4).map (T.int .u8)),.cells true 23 (T.int .i64 ((gx t k_).prio) :: ((((gx t k_).mat).mask).l.map (T.int .i64)++((((gx t k_).mat).bits).l.map (T.int .i64)++[T.int .i64 ((gx t k_).step),zaj ((gx t k_).outs)]))),.cells true 21 (T.int .i64 ((gx (gx ((gx t k_).outs) i) j).link) :: ((((gx (gx ((gx t k_).outs) i) j).mod).mask).l.map (T.int .i64)++((((gx (gx ((gx t k_).outs) i) j).mod).bits).l.map (T.int .i64))))] (fun h=>h 0=zat t∧h 3=.arr 0 1 0 (s_12.2+rwords4.length) (s_12.2+rwords4.length) (s_12.2+rwords4.length)∧h 4=.int .i64 k_∧h 5=.ptr 1 0 23∧h 6=.int .i64 i∧h 7=.int .i64 j) hh ?_ ?_
       ·exact ⟨zau.call ((zdj ax hx k (((gx (gx ((gx t k_).outs) i) j).mod).bits) rwords4 e30 ).call _),trivial⟩
       clear hh h;intro h hh;repeat apply TW.seq
       refine rk [0,3,4,5,6,7] [] hh ?_;clear hh h;intro h hh;exact rd m hh ⟨(IntKind.i64.wrap (j+1)),(s_12.1++rwords4),(s_12.2+rwords4.length),H5,kq hh,rfl⟩
      repeat apply TW.seq
      refine rg [] [(byts rwords4,stL [.cells false s_12.2 (s_12.1.map (T.int .u8)),.cells true 23 (T.int .i64 ((gx t k_).prio) :: ((((gx t k_).mat).mask).l.map (T.int .i64)++((((gx t k_).mat).bits).l.map (T.int .i64)++[T.int .i64 ((gx t k_).step),zaj ((gx t k_).outs)]))),.cells true 21 (T.int .i64 ((gx (gx ((gx t k_).outs) i) j).link) :: ((((gx (gx ((gx t k_).outs) i) j).mod).mask).l.map (T.int .i64)++((((gx (gx ((gx t k_).outs) i) j).mod).bits).l.map (T.int .i64))))])] [.cells false s_12.2 (s_12.1.map (T.int .u8)),.cells true 23 (T.int .i64 ((gx t k_).prio) :: ((((gx t k_).mat).mask).l.map (T.int .i64)++((((gx t k_).mat).bits).l.map (T.int .i64)++[T.int .i64 ((gx t k_).step),zaj ((gx t k_).outs)]))),.cells true 21 (T.int .i64 ((gx (gx ((gx t k_).outs) i) j).link) :: ((((gx (gx ((gx t k_).outs) i) j).mod).mask).l.map (T.int .i64)++((((gx (gx ((gx t k_).outs) i) j).mod).bits).l.map (T.int .i64))))] (fun h=>h 0=zat t∧h 3=.arr 0 1 0 s_12.2 s_12.2 s_12.2∧h 4=.int .i64 k_∧h 5=.ptr 1 0 23∧h 6=.int .i64 i∧h 7=.int .i64 j) (f2 hh c32) ?_ ?_
      ·exact ⟨zau.call ((zdj ax hx k (((gx (gx ((gx t k_).outs) i) j).mod).bits) rwords4 e30 ).call _),trivial⟩
      clear hh h;intro h hh;repeat apply TW.seq
      refine rk [0,3,4,5,6,7] [] (f2 hh c32) ?_;clear hh h;intro h hh;exact rd m hh ⟨(IntKind.i64.wrap (j+1)),s_12.1,s_12.2,H5,kq hh,rfl⟩
     clear hh h;rintro h bs ⟨hh,rfl⟩;cases H4;exact ce hh ⟨kq hh,rfl⟩
    clear hh h;rintro h bs ⟨hh,rfl⟩;repeat apply TW.seq
    refine rk [0,3,4,5,6] [] hh ?_;clear hh h;intro h hh;exact rd m hh ⟨(IntKind.i64.wrap (i+1)),s_8.1,s_8.2,H3,kq hh,rfl⟩
   clear hh h;rintro h bs ⟨hh,rfl⟩;cases H2;exact ce hh ⟨kq hh,rfl⟩
  clear hh h;rintro h bs ⟨hh,rfl⟩;repeat apply TW.seq
  refine rk [0,3,4] [] hh ?_;clear hh h;intro h hh;exact rd m hh ⟨(IntKind.i64.wrap (k_+1)),s_2.1,s_2.2,H1,kq hh,rfl⟩
 clear hh h;rintro h bs ⟨hh,rfl⟩;repeat apply TW.seq
 refine rk [2] [] hh ?_;clear hh h;intro h hh;obtain ⟨g33,H⟩:=isg H;refine TW.freeze 2 (b:=0) (e:=1) (off:=0) (len:=s_.2) (cap:=s_.2) (M:=s_.2) (s_.1.map (T.int .u8)) (kq hh) (by rfl) (by omega) (by omega) (by rw [List.drop_zero,Nat.mul_one,zbv (fun _=>rfl),List.take_of_length_le (by rw [List.length_map];omega)]) (fun t ht=>by obtain ⟨x,_,rfl⟩:=List.mem_map.1 ht;first|rfl|exact zd2 _|exact zci _|exact zbz _|exact zbe _ | (rw [List.length_map];rfl)) (by rw [List.length_map];exact g33) (by omega) ?_;rw [zeb _ _ _ (by simp only [lzA]<;>omega)];simp only [scA];refine gk [2] hh ?_;clear hh h;intro h hh;cases H;exact rt hh
def zc0 (k:Nat) (b:List Int):Nat→Int→Option Int
 |0,_=>none
 |m+1,k_=>(if k_<(b.length:Int) then (if k_<10 then (if (0:Int)≤k_∧k_<(b.length:Int) then (if 128≤(gx b k_) then zc0 k b m (IntKind.i64.wrap (k_+1)) else some k_) else none) else some k_) else some k_)
def zcf (k:Nat) (b:List Int):Nat→Int→Int→Option Int
 |0,_,_=>none
 |m+1,z,i=>(if 0≤i then (if (0:Int)≤i∧i<(b.length:Int) then (if (0:Int)≤(gx b i)∧0<128 then zcf k b m (IntKind.u64.wrap ((IntKind.u64.wrap (z*128))+(IntKind.u64.wrap ((gx b i) % 128)))) (IntKind.i64.wrap (i - 1)) else none) else none) else some z)
def zej (k:Nat) (b:List Int):Option (Int×Int×Int):=((zc0 k b k 0:Option Int).bind fun s_=>(if s_=10 then some (0,0,6) else (if s_=(b.length:Int) then some (0,0,5) else (((if s_=9 then (if (0:Int)≤s_∧s_<(b.length:Int) then (if 1<(gx b s_) then some true else (if 0<s_ then some (decide ((gx b s_)=0)) else some false)) else none) else (if 0<s_ then (if (0:Int)≤s_∧s_<(b.length:Int) then some (decide ((gx b s_)=0)) else none) else some false)):Option Bool).bind fun s_2=>(if s_2=true then some (0,0,6) else ((zcf k b k 0 s_:Option Int).bind fun s_3=>(if (0:Int)≤s_3∧0<2 then (if (s_3 % 2)=1 then some (IntKind.i64.wrap ((-1) - (IntKind.i64.wrap (IntKind.u64.wrap (s_3 / 2)))),IntKind.i64.wrap (s_+1),0) else some (IntKind.i64.wrap (IntKind.u64.wrap (s_3 / 2)),IntKind.i64.wrap (s_+1),0)) else none)))))))
set_option maxHeartbeats 8000000 in
theorem ziz (ax:Axs) (hx:zb7 ax) (k:Nat) (b:List Int) (v:Int×Int×Int) (H:zej k b=some v):Pure Tryz.prog (EE ax) [] 133 [byts b] (tupT [.int .i64 v.1,.int .i64 v.2.1,.int .i64 v.2.2]):=by
 rw [zej] at H;refine enN [.tmp 2,.tmp 3,.tmp 4] 79 [0] (hx.no _ (by decide)) (fn133 ax) ?_;intro h hh;repeat apply TW.seq
 refine rk [0] [] hh ?_;clear hh h;intro h hh;repeat apply TW.seq
 refine rk [0,5] [] hh ?_;clear hh h;intro h hh;obtain ⟨s_,H1,H⟩:=zad H;repeat apply TW.seq
 refine cu [0,5] 0 (fun h bs=>(h 0=byts b∧h 5=.int .i64 s_)∧bs=[]) ?_ ?_
 ·skip;repeat apply TW.seq
  apply TW.block;repeat apply TW.seq
  refine TW.loopT [0,5] (fun m h bs=>∃ (k_:Int),zc0 k b m k_=some s_∧(h 0=byts b∧h 5=.int .i64 k_)∧bs=[]) ?_ k _ _ ?_;rotate_left
  ·exact ⟨0,H1,kq hh,rfl⟩
  clear hh h H1;rintro m h bs ⟨k_,H1,hh,rfl⟩;rcases m with _|m
  ·rw [zc0] at H1;cases H1
  rw [zc0] at H1;rcases isp H1 with ⟨c1,H1⟩|⟨c1,H1⟩;rotate_left
  ·skip;repeat apply TW.seq
   refine rk [0,5,22] [] (f2 hh (decide_eq_false c1)) ?_;clear hh h;intro h hh;repeat apply TW.seq
   refine cf hh ?_;refine xk ?_;cases H1;exact ce hh ⟨kq hh,rfl⟩
  rcases isp H1 with ⟨c2,H1⟩|⟨c2,H1⟩;rotate_left
  ·skip;repeat apply TW.seq
   refine rk [0,5,22] [] (f3 hh (decide_eq_true c1) (decide_eq_false c2)) ?_;clear hh h;intro h hh;repeat apply TW.seq
   refine cf hh ?_;refine xk ?_;cases H1;exact ce hh ⟨kq hh,rfl⟩
  obtain ⟨g3,H1⟩:=isg H1;repeat apply TW.seq
  refine rk [0,5,22] [] (f3 hh (decide_eq_true c1) (f2 (decide_eq_true c2) (za7 g3))) ?_;clear hh h;intro h hh;rcases isp H1 with ⟨c4,H1⟩|⟨c4,H1⟩;rotate_left
  ·skip;repeat apply TW.seq
   refine cf (f2 hh (decide_eq_false c4)) ?_;refine xk ?_;cases H1;exact ce hh ⟨kq hh,rfl⟩
  repeat apply TW.seq
  refine ct (f2 hh (decide_eq_true c4)) ?_;repeat apply TW.seq
  refine sk ?_;repeat apply TW.seq
  apply TW.block;repeat apply TW.seq
  refine rk [0,5] [] hh ?_;clear hh h;intro h hh;exact rd m hh ⟨(IntKind.i64.wrap (k_+1)),H1,kq hh,rfl⟩
 clear hh h;rintro h bs ⟨hh,rfl⟩;repeat apply TW.seq
 refine rk [0,5,26] [] hh ?_;clear hh h;intro h hh;rcases isp H with ⟨c5,H⟩|⟨c5,H⟩;rotate_left
 ·skip;repeat apply TW.seq
  refine cf (f2 hh (decide_eq_false c5)) ?_;repeat apply TW.seq
  refine sk ?_;repeat apply TW.seq
  refine rk [0,5,30] [] hh ?_;clear hh h;intro h hh;rcases isp H with ⟨c6,H⟩|⟨c6,H⟩;rotate_left
  ·skip;repeat apply TW.seq
   refine cf (f2 hh (decide_eq_false c6)) ?_;repeat apply TW.seq
   refine sk ?_;obtain ⟨s_2,H1,H⟩:=zad H;repeat apply TW.seq
   refine cu [0,5,50] 0 (fun h bs=>(h 0=byts b∧h 5=.int .i64 s_∧h 50=.bool s_2)∧bs=[]) ?_ ?_
   ·skip;rcases isp H1 with ⟨c7,H1⟩|⟨c7,H1⟩;rotate_left
    ·skip;rcases isp H1 with ⟨c11,H1⟩|⟨c11,H1⟩;rotate_left
     ·skip;repeat apply TW.seq
      refine rk [0,5,50] [] (f3 hh (decide_eq_false c7) (decide_eq_false c11)) ?_;clear hh h;intro h hh;cases H1;exact ce hh ⟨kq hh,rfl⟩
     obtain ⟨g12,H1⟩:=isg H1;repeat apply TW.seq
     refine rk [0,5,50] [] (f3 hh (decide_eq_false c7) (f2 (decide_eq_true c11) (za7 g12))) ?_;clear hh h;intro h hh;cases H1;exact ce hh ⟨kq hh,rfl⟩
    obtain ⟨g8,H1⟩:=isg H1;rcases isp H1 with ⟨c9,H1⟩|⟨c9,H1⟩;rotate_left
    ·skip;rcases isp H1 with ⟨c10,H1⟩|⟨c10,H1⟩;rotate_left
     ·skip;repeat apply TW.seq
      refine rk [0,5,50] [] (f3 hh (decide_eq_true c7) (f3 (decide_eq_false c9) (decide_eq_false c10) (za7 g8))) ?_;clear hh h;intro h hh;cases H1;exact ce hh ⟨kq hh,rfl⟩
     repeat apply TW.seq
     refine rk [0,5,50] [] (f3 hh (decide_eq_true c7) (f3 (decide_eq_false c9) (decide_eq_true c10) (za7 g8))) ?_;clear hh h;intro h hh;cases H1;exact ce hh ⟨kq hh,rfl⟩
    repeat apply TW.seq
    refine rk [0,5,50] [] (f3 hh (decide_eq_true c7) (f2 (decide_eq_true c9) (za7 g8))) ?_;clear hh h;intro h hh;cases H1;exact ce hh ⟨kq hh,rfl⟩
   clear hh h;rintro h bs ⟨hh,rfl⟩;rcases isb H with ⟨c13,H⟩|⟨c13,H⟩;rotate_left
   ·skip;repeat apply TW.seq
    refine cf (f2 hh c13) ?_;repeat apply TW.seq
    refine sk ?_;repeat apply TW.seq
    refine rk [0,5,6] [] (f2 hh c13) ?_;clear hh h;intro h hh;repeat apply TW.seq
    refine rk [0,5,6,7] [] (f2 hh c13) ?_;clear hh h;intro h hh;obtain ⟨s_3,H1,H⟩:=zad H;repeat apply TW.seq
    refine cu [5,6] 0 (fun h bs=>(h 5=.int .i64 s_∧h 6=.int .u64 s_3)∧bs=[]) ?_ ?_
    ·skip;repeat apply TW.seq
     apply TW.block;repeat apply TW.seq
     refine TW.loopT [0,5,6,7] (fun m h bs=>∃ (z:Int) (i:Int),zcf k b m z i=some s_3∧(h 0=byts b∧h 5=.int .i64 s_∧h 6=.int .u64 z∧h 7=.int .i64 i)∧bs=[]) ?_ k _ _ ?_;rotate_left
     ·exact ⟨0,s_,H1,kq hh,rfl⟩
     clear hh h H1;rintro m h bs ⟨z,i,H1,hh,rfl⟩;rcases m with _|m
     ·rw [zcf] at H1;cases H1
     rw [zcf] at H1;repeat apply TW.seq
     refine rk [0,5,6,7,53] [] (f2 hh c13) ?_;clear hh h;intro h hh;rcases isp H1 with ⟨c14,H1⟩|⟨c14,H1⟩;rotate_left
     ·skip;repeat apply TW.seq
      refine cf (f2 hh (decide_eq_false c14)) ?_;refine xk ?_;cases H1;exact ce hh ⟨kq hh,rfl⟩
     repeat apply TW.seq
     refine ct (f2 hh (decide_eq_true c14)) ?_;repeat apply TW.seq
     refine sk ?_;repeat apply TW.seq
     apply TW.block;obtain ⟨g15,H1⟩:=isg H1;obtain ⟨g16,H1⟩:=isg H1;repeat apply TW.seq
     refine rk [0,5,6,7] [] (f3 hh c13 (za7 g15)) ?_;clear hh h;intro h hh;repeat apply TW.seq
     refine rk [0,5,6,7] [] (f2 hh c13) ?_;clear hh h;intro h hh;exact rd m hh ⟨(IntKind.u64.wrap ((IntKind.u64.wrap (z*128))+(IntKind.u64.wrap ((gx b i) % 128)))),(IntKind.i64.wrap (i - 1)),H1,kq hh,rfl⟩
    clear hh h;rintro h bs ⟨hh,rfl⟩;obtain ⟨g17,H⟩:=isg H;repeat apply TW.seq
    refine rk [5,6,67] [] (f2 hh c13) ?_;clear hh h;intro h hh;rcases isp H with ⟨c18,H⟩|⟨c18,H⟩;rotate_left
    ·skip;repeat apply TW.seq
     refine cf (f2 hh (decide_eq_false c18)) ?_;repeat apply TW.seq
     refine sk ?_;repeat apply TW.seq
     refine rk [2,3,4] [] (f2 hh c13) ?_;clear hh h;intro h hh;cases H;exact rt hh
    repeat apply TW.seq
    refine ct (f2 hh (decide_eq_true c18)) ?_;repeat apply TW.seq
    refine rk [2,3,4] [] (f2 hh c13) ?_;clear hh h;intro h hh;cases H;exact rt hh
   repeat apply TW.seq
   refine ct (f2 hh c13) ?_;repeat apply TW.seq
   refine rk [2,3,4] [] (f2 hh c13) ?_;clear hh h;intro h hh;cases H;exact rt hh
  repeat apply TW.seq
  refine ct (f2 hh (decide_eq_true c6)) ?_;repeat apply TW.seq
  refine rk [2,3,4] [] hh ?_;clear hh h;intro h hh;cases H;exact rt hh
 repeat apply TW.seq
 refine ct (f2 hh (decide_eq_true c5)) ?_;repeat apply TW.seq
 refine rk [2,3,4] [] hh ?_;clear hh h;intro h hh;cases H;exact rt hh
def zjl (k:Nat) (b:List Int) (least:Int):Option (Int×Int×Int):=((zej k b).bind fun rGetInt=>(if rGetInt.2.2≠0 then some (0,0,rGetInt.2.2) else (if rGetInt.1<0 then some (0,0,6) else (if (0:Int)≤(IntKind.i64.wrap ((b.length:Int) - rGetInt.2.1))∧0<least then (if (IntKind.i64.wrap ((IntKind.i64.wrap ((b.length:Int) - rGetInt.2.1)) / least))<rGetInt.1 then some (0,0,5) else some (rGetInt.1,rGetInt.2.1,0)) else none))))
set_option maxHeartbeats 8000000 in
theorem zsc (ax:Axs) (hx:zb7 ax) (k:Nat) (b:List Int) (least:Int) (v:Int×Int×Int) (H:zjl k b least=some v):Pure Tryz.prog (EE ax) [] 146 [byts b,.int .i64 least] (tupT [.int .i64 v.1,.int .i64 v.2.1,.int .i64 v.2.2]):=by
 rw [zjl] at H;refine enN [.tmp 4,.tmp 5,.tmp 6] 31 [0,1] (hx.no _ (by decide)) (fn146 ax) ?_;intro h hh;repeat apply TW.seq
 refine rk [0,1] [] hh ?_;clear hh h;intro h hh;obtain ⟨rGetInt,e1,H⟩:=zad H;repeat apply TW.seq
 refine rkc [0,1,7,8,9] [] [(.tup [.int .i64 rGetInt.1,.int .i64 rGetInt.2.1,.int .i64 rGetInt.2.2],stL [])] hh ?_ ?_
 ·exact ⟨zau.call ((ziz ax hx k b rGetInt e1 ).call _),trivial⟩
 clear hh h;intro h hh;repeat apply TW.seq
 refine rk [0,1,7,8,9,17] [] hh ?_;clear hh h;intro h hh;rcases isp H with ⟨c2,H⟩|⟨c2,H⟩;rotate_left
 ·skip;repeat apply TW.seq
  refine cf (f2 hh (decide_eq_false c2)) ?_;repeat apply TW.seq
  refine sk ?_;repeat apply TW.seq
  refine rk [0,1,7,8,20] [] hh ?_;clear hh h;intro h hh;rcases isp H with ⟨c3,H⟩|⟨c3,H⟩;rotate_left
  ·skip;repeat apply TW.seq
   refine cf (f2 hh (decide_eq_false c3)) ?_;repeat apply TW.seq
   refine sk ?_;obtain ⟨g4,H⟩:=isg H;repeat apply TW.seq
   refine rk [7,8,28] [] hh ?_;clear hh h;intro h hh;rcases isp H with ⟨c5,H⟩|⟨c5,H⟩;rotate_left
   ·skip;repeat apply TW.seq
    refine cf (f2 hh (decide_eq_false c5)) ?_;repeat apply TW.seq
    refine sk ?_;repeat apply TW.seq
    refine rk [4,5,6] [] hh ?_;clear hh h;intro h hh;cases H;exact rt hh
   repeat apply TW.seq
   refine ct (f2 hh (decide_eq_true c5)) ?_;repeat apply TW.seq
   refine rk [4,5,6] [] hh ?_;clear hh h;intro h hh;cases H;exact rt hh
  repeat apply TW.seq
  refine ct (f2 hh (decide_eq_true c3)) ?_;repeat apply TW.seq
  refine rk [4,5,6] [] hh ?_;clear hh h;intro h hh;cases H;exact rt hh
 repeat apply TW.seq
 refine ct (f2 hh (decide_eq_true c2)) ?_;repeat apply TW.seq
 refine rk [4,5,6] [] hh ?_;clear hh h;intro h hh;cases H;exact rt hh
def zcm (k:Nat) (b:List Int) (rlength:Int×Int×Int):Nat→Int→Int→(List Int)→Nat→Option ((List Int×Int×Int) ⊕ (Int×List Int×Nat))
 |0,_,_,_,_=>none
 |m+1,at_,k_,l,n=>(if k_<rlength.1 then (if (0:Int)≤at_∧at_≤(b.length:Int) then ((zej k (b.drop at_.toNat)).bind fun rGetInt=>(if rGetInt.2.2≠0 then some (.inl ([],0,rGetInt.2.2)) else (if (n+1)*9≤1000000000 then zcm k b rlength m (IntKind.i64.wrap (at_+rGetInt.2.1)) (IntKind.i64.wrap (k_+1)) (l++[rGetInt.1]) (n+1) else none))) else none) else some (.inr (at_,l,n)))
def zhl (k:Nat) (b:List Int):Option (List Int×Int×Int):=((zjl k b 1).bind fun rlength=>(if rlength.2.2≠0 then some ([],0,rlength.2.2) else ((zcm k b rlength k rlength.2.1 0 [] 0:Option ((List Int×Int×Int) ⊕ (Int×List Int×Nat))).bind fun o=>Sum.elim (fun r=>some r) (fun s_=>(if s_.2.1.length=s_.2.2 then some (s_.2.1,s_.1,0) else none)) o)))
set_option maxHeartbeats 8000000 in
theorem zqd (ax:Axs) (hx:zb7 ax) (k:Nat) (b:List Int) (v:List Int×Int×Int) (H:zhl k b=some v):Pure Tryz.prog (EE ax) [] 132 [byts b] (tupT [ints v.1,.int .i64 v.2.1,.int .i64 v.2.2]):=by
 rw [zhl] at H;refine enN [.tmp 2,.tmp 3,.tmp 4] 47 [0] (hx.no _ (by decide)) (fn132 ax) ?_;intro h hh;repeat apply TW.seq
 refine rk [0] [] hh ?_;clear hh h;intro h hh;obtain ⟨rlength,e1,H⟩:=zad H;repeat apply TW.seq
 refine rkc [0,5,6,7] [] [(.tup [.int .i64 rlength.1,.int .i64 rlength.2.1,.int .i64 rlength.2.2],stL [])] hh ?_ ?_
 ·exact ⟨zau.call ((zsc ax hx k b 1 rlength e1 ).call _),trivial⟩
 clear hh h;intro h hh;repeat apply TW.seq
 refine rk [0,5,6,7,20] [] hh ?_;clear hh h;intro h hh;rcases isp H with ⟨c2,H⟩|⟨c2,H⟩;rotate_left
 ·skip;repeat apply TW.seq
  refine cf (f2 hh (decide_eq_false c2)) ?_;repeat apply TW.seq
  refine sk ?_;repeat apply TW.seq
  refine rk [0,5,6,8] [] hh ?_;clear hh h;intro h hh;refine vk 8 1 [0,5,6,8] hh ?_;clear hh h;intro h hh;repeat apply TW.seq
  refine rk [0,5,6,8,9] [] hh ?_;clear hh h;intro h hh;obtain ⟨o,H1,H⟩:=zad H;repeat apply TW.seq
  refine cu [6,8] 1 (fun h bs=>∃ s_:Int×List Int×Nat,o=.inr s_∧(h 6=.int .i64 s_.1∧h 8=.arr 0 1 0 s_.2.2 s_.2.2 s_.2.2)∧bs=[.cells false s_.2.2 (s_.2.1.map (T.int .i64))]) ?_ ?_
  ·skip;repeat apply TW.seq
   apply TW.block;repeat apply TW.seq
   refine TW.loopT [0,5,6,8,9] (fun m h bs=>∃ (at_:Int) (k_:Int) (l:List Int) (n:Nat),zcm k b rlength m at_ k_ l n=some o∧(h 0=byts b∧h 5=.int .i64 rlength.1∧h 6=.int .i64 at_∧h 8=.arr 0 1 0 n n n∧h 9=.int .i64 k_)∧bs=[.cells false n (l.map (T.int .i64))]) ?_ k _ _ ?_;rotate_left
   ·exact ⟨rlength.2.1,0,[],0,H1,kq hh,rfl⟩
   clear hh h H1;rintro m h bs ⟨at_,k_,l,n,H1,hh,rfl⟩;rcases m with _|m
   ·rw [zcm] at H1;cases H1
   rw [zcm] at H1;repeat apply TW.seq
   refine rk [0,5,6,8,9,24] [] hh ?_;clear hh h;intro h hh;rcases isp H1 with ⟨c3,H1⟩|⟨c3,H1⟩;rotate_left
   ·skip;repeat apply TW.seq
    refine cf (f2 hh (decide_eq_false c3)) ?_;refine xk ?_;cases H1;exact ce hh ⟨_,rfl,kq hh,rfl⟩
   repeat apply TW.seq
   refine ct (f2 hh (decide_eq_true c3)) ?_;repeat apply TW.seq
   refine sk ?_;repeat apply TW.seq
   apply TW.block;obtain ⟨g4,H1⟩:=isg H1;obtain ⟨rGetInt,e5,H1⟩:=zad H1;repeat apply TW.seq
   refine rkc [0,5,6,8,9,10,11,12] [] [(.tup [.int .i64 rGetInt.1,.int .i64 rGetInt.2.1,.int .i64 rGetInt.2.2],stL [.cells false n (l.map (T.int .i64))])] (f3 hh (znm g4) (zh4 (T.int .u8) b)) ?_ ?_
   ·exact ⟨zau.call ((ziz ax hx k (b.drop at_.toNat) rGetInt e5 ).call _),trivial⟩
   clear hh h;intro h hh;repeat apply TW.seq
   refine rk [0,5,6,8,9,10,11,12,36] [] hh ?_;clear hh h;intro h hh;rcases isp H1 with ⟨c6,H1⟩|⟨c6,H1⟩;rotate_left
   ·skip;repeat apply TW.seq
    refine cf (f2 hh (decide_eq_false c6)) ?_;repeat apply TW.seq
    refine sk ?_;obtain ⟨g7,H1⟩:=isg H1;repeat apply TW.seq
    refine rg [] [] [.cells false (n+1) ((l++[rGetInt.1]).map (T.int .i64))] (fun h=>h 0=byts b∧h 5=.int .i64 rlength.1∧h 6=.int .i64 at_∧h 8=.arr 0 1 0 (n+1) (n+1) (n+1)∧h 9=.int .i64 k_∧h 11=.int .i64 rGetInt.2.1) hh trivial ?_;clear hh h;intro h hh;repeat apply TW.seq
    refine rk [0,5,6,8,9] [] hh ?_;clear hh h;intro h hh;repeat apply TW.seq
    refine rk [0,5,6,8,9] [] hh ?_;clear hh h;intro h hh;exact rd m hh ⟨(IntKind.i64.wrap (at_+rGetInt.2.1)),(IntKind.i64.wrap (k_+1)),(l++[rGetInt.1]),(n+1),H1,kq hh,rfl⟩
   repeat apply TW.seq
   refine ct (f2 hh (decide_eq_true c6)) ?_;repeat apply TW.seq
   refine rk [2,3,4] [] hh ?_;clear hh h;intro h hh;refine nk 2 1 [2,3,4] hh ?_;clear hh h;intro h hh;cases H1;obtain rfl:=sinl H;exact rt hh
  clear hh h;rintro h bs ⟨s_,rfl,hh,rfl⟩;replace H:=sinr H;repeat apply TW.seq
  refine rk [2,3,4] [] hh ?_;clear hh h;intro h hh;obtain ⟨g8,H⟩:=isg H;refine TW.freeze 2 (b:=0) (e:=1) (off:=0) (len:=s_.2.2) (cap:=s_.2.2) (M:=s_.2.2) (s_.2.1.map (T.int .i64)) (kq hh) (by rfl) (by omega) (by omega) (by rw [List.drop_zero,Nat.mul_one,zbv (fun _=>rfl),List.take_of_length_le (by rw [List.length_map];omega)]) (fun t ht=>by obtain ⟨x,_,rfl⟩:=List.mem_map.1 ht;first|rfl|exact zd2 _|exact zci _|exact zbz _|exact zbe _ | (rw [List.length_map];rfl)) (by rw [List.length_map];exact g8) (by omega) ?_;rw [zeb _ _ _ (by simp only [lzA]<;>omega)];simp only [scA];refine gk [2,3,4] hh ?_;clear hh h;intro h hh;cases H;exact rt hh
 repeat apply TW.seq
 refine ct (f2 hh (decide_eq_true c2)) ?_;repeat apply TW.seq
 refine rk [2,3,4] [] hh ?_;clear hh h;intro h hh;refine nk 2 1 [2,3,4] hh ?_;clear hh h;intro h hh;cases H;exact rt hh
def zae (k:Nat) (e:Int) (x0:List Int) (x02:Int):Option Int:=(if x02=0 then some e else some x02)
set_option maxHeartbeats 8000000 in
theorem zbt (ax:Axs) (hx:zb7 ax) (k:Nat) (e:Int) (x0:List Int) (x02:Int) (v:Int) (H:zae k e x0 x02=some v):Call Tryz.prog (EE ax) [] 97 [.ptr 0 0 2,.int .i64 e] (stL [.cells true 2 [byts x0,.int .i64 x02]]) (tupT []) (stL [.cells true 2 [byts x0,.int .i64 v]]):=by
 rw [zae] at H;refine enB [] 13 [0,1] (hx.no _ (by decide)) (fn97 ax) ?_;intro h hh;repeat apply TW.seq
 refine rk [0,1,8] [] hh ?_;clear hh h;intro h hh;rcases isp H with ⟨c1,H⟩|⟨c1,H⟩;rotate_left
 ·skip;repeat apply TW.seq
  refine cf (f2 hh (decide_eq_false c1)) ?_;repeat apply TW.seq
  refine sk ?_;cases H;exact rnB hh
 repeat apply TW.seq
 refine ct (f2 hh (decide_eq_true c1)) ?_;repeat apply TW.seq
 refine rk [] [] hh ?_;clear hh h;intro h hh;cases H;exact rnB hh
def za5 (k:Nat) (x0:List Int) (x02:Int):Option (Int×List Int×Int):=(if x02≠0 then some (0,x0,x02) else ((zej k x0).bind fun rGetInt=>((zae k rGetInt.2.2 x0 x02).bind fun rb=>(if (0:Int)≤rGetInt.2.1∧rGetInt.2.1≤(x0.length:Int) then some (rGetInt.1,x0.drop rGetInt.2.1.toNat,rb) else none))))
set_option maxHeartbeats 8000000 in
theorem zhx (ax:Axs) (hx:zb7 ax) (k:Nat) (x0:List Int) (x02:Int) (v:Int×List Int×Int) (H:za5 k x0 x02=some v):Call Tryz.prog (EE ax) [] 96 [.ptr 0 0 2] (stL [.cells true 2 [byts x0,.int .i64 x02]]) (tupT [.int .i64 v.1]) (stL [.cells true 2 [byts v.2.1,.int .i64 v.2.2]]):=by
 rw [za5] at H;refine enB [.tmp 2] 33 [0] (hx.no _ (by decide)) (fn96 ax) ?_;intro h hh;repeat apply TW.seq
 refine rk [0] [] hh ?_;clear hh h;intro h hh;repeat apply TW.seq
 refine rk [0,10] [] hh ?_;clear hh h;intro h hh;rcases isp H with ⟨c1,H⟩|⟨c1,H⟩;rotate_left
 ·skip;repeat apply TW.seq
  refine cf (f2 hh (decide_eq_false c1)) ?_;repeat apply TW.seq
  refine sk ?_;obtain ⟨rGetInt,e2,H⟩:=zad H;repeat apply TW.seq
  refine rkc [0,3,4,5] [] [(.tup [.int .i64 rGetInt.1,.int .i64 rGetInt.2.1,.int .i64 rGetInt.2.2],stL [.cells true 2 [byts x0,.int .i64 x02]])] hh ?_ ?_
  ·exact ⟨zau.call ((ziz ax hx k x0 rGetInt e2 ).call _),trivial⟩
  clear hh h;intro h hh;obtain ⟨rb,e3,H⟩:=zad H;repeat apply TW.seq
  refine rkc [0,3,4] [] [(.tup [],stL [.cells true 2 [byts x0,.int .i64 rb]])] hh ?_ ?_
  ·exact ⟨ca [0] (zbt ax hx k rGetInt.2.2 x0 x02 rb e3),trivial⟩
  clear hh h;intro h hh;obtain ⟨g4,H⟩:=isg H;repeat apply TW.seq
  refine rk [3] [] (f3 hh (znm g4) (zh4 (T.int .u8) x0)) ?_;clear hh h;intro h hh;repeat apply TW.seq
  refine rk [2] [] hh ?_;clear hh h;intro h hh;cases H;exact rtB hh
 repeat apply TW.seq
 refine ct (f2 hh (decide_eq_true c1)) ?_;repeat apply TW.seq
 refine rk [2] [] hh ?_;clear hh h;intro h hh;cases H;exact rtB hh
def zab (k:Nat) (most:Int) (x0:List Int) (x02:Int):Option (Int×List Int×Int):=((za5 k x0 x02).bind fun rb=>(((if rb.2.2=0 then some (decide (rb.1<0)) else some false):Option Bool).bind fun s_=>(((if s_=true then ((zae k 6 rb.2.1 rb.2.2).bind fun rb2=>some rb2) else some rb.2.2):Option Int).bind fun s_2=>(((if s_2=0 then some (decide (most<rb.1)) else some false):Option Bool).bind fun s_3=>(((if s_3=true then ((zae k 2 rb.2.1 s_2).bind fun rb3=>some rb3) else some s_2):Option Int).bind fun s_4=>(if s_4≠0 then some (0,rb.2.1,s_4) else some (rb.1,rb.2.1,s_4)))))))
set_option maxHeartbeats 8000000 in
theorem zes (ax:Axs) (hx:zb7 ax) (k:Nat) (most:Int) (x0:List Int) (x02:Int) (v:Int×List Int×Int) (H:zab k most x0 x02=some v):Call Tryz.prog (EE ax) [] 93 [.ptr 0 0 2,.int .i64 most] (stL [.cells true 2 [byts x0,.int .i64 x02]]) (tupT [.int .i64 v.1]) (stL [.cells true 2 [byts v.2.1,.int .i64 v.2.2]]):=by
 rw [zab] at H;refine enB [.tmp 4] 37 [0,1] (hx.no _ (by decide)) (fn93 ax) ?_;intro h hh;repeat apply TW.seq
 refine rk [0,1] [] hh ?_;clear hh h;intro h hh;obtain ⟨rb,e1,H⟩:=zad H;repeat apply TW.seq
 refine rkc [0,1,5] [] [(.int .i64 rb.1,stL [.cells true 2 [byts rb.2.1,.int .i64 rb.2.2]])] hh ?_ ?_
 ·exact ⟨ca [0] (zhx ax hx k x0 x02 rb e1),trivial⟩
 clear hh h;intro h hh;obtain ⟨s_,H1,H⟩:=zad H;repeat apply TW.seq
 refine cu [0,1,5,16] 1 (fun h bs=>(h 0=.ptr 0 0 2∧h 1=.int .i64 most∧h 5=.int .i64 rb.1∧h 16=.bool s_)∧bs=[.cells true 2 [byts rb.2.1,.int .i64 rb.2.2]]) ?_ ?_
 ·skip;rcases isp H1 with ⟨c2,H1⟩|⟨c2,H1⟩;rotate_left
  ·skip;repeat apply TW.seq
   refine rk [0,1,5,16] [] (f2 hh (decide_eq_false c2)) ?_;clear hh h;intro h hh;cases H1;exact ce hh ⟨kq hh,rfl⟩
  repeat apply TW.seq
  refine rk [0,1,5,16] [] (f2 hh (decide_eq_true c2)) ?_;clear hh h;intro h hh;cases H1;exact ce hh ⟨kq hh,rfl⟩
 clear hh h;rintro h bs ⟨hh,rfl⟩;obtain ⟨s_2,H1,H⟩:=zad H;repeat apply TW.seq
 refine cu [0,1,5] 1 (fun h bs=>(h 0=.ptr 0 0 2∧h 1=.int .i64 most∧h 5=.int .i64 rb.1)∧bs=[.cells true 2 [byts rb.2.1,.int .i64 s_2]]) ?_ ?_
 ·skip;rcases isb H1 with ⟨c3,H1⟩|⟨c3,H1⟩;rotate_left
  ·skip;repeat apply TW.seq
   refine cf (f2 hh c3) ?_;repeat apply TW.seq
   refine sk ?_;cases H1;exact ce hh ⟨kq hh,rfl⟩
  repeat apply TW.seq
  refine ct (f2 hh c3) ?_;obtain ⟨rb2,e4,H1⟩:=zad H1;repeat apply TW.seq
  refine rkc [0,1,5] [] [(.tup [],stL [.cells true 2 [byts rb.2.1,.int .i64 rb2]])] (f2 hh c3) ?_ ?_
  ·exact ⟨ca [0] (zbt ax hx k 6 rb.2.1 rb.2.2 rb2 e4),trivial⟩
  clear hh h;intro h hh;cases H1;exact ce hh ⟨kq hh,rfl⟩
 clear hh h;rintro h bs ⟨hh,rfl⟩;obtain ⟨s_3,H1,H⟩:=zad H;repeat apply TW.seq
 refine cu [0,5,28] 1 (fun h bs=>(h 0=.ptr 0 0 2∧h 5=.int .i64 rb.1∧h 28=.bool s_3)∧bs=[.cells true 2 [byts rb.2.1,.int .i64 s_2]]) ?_ ?_
 ·skip;rcases isp H1 with ⟨c5,H1⟩|⟨c5,H1⟩;rotate_left
  ·skip;repeat apply TW.seq
   refine rk [0,5,28] [] (f2 hh (decide_eq_false c5)) ?_;clear hh h;intro h hh;cases H1;exact ce hh ⟨kq hh,rfl⟩
  repeat apply TW.seq
  refine rk [0,5,28] [] (f2 hh (decide_eq_true c5)) ?_;clear hh h;intro h hh;cases H1;exact ce hh ⟨kq hh,rfl⟩
 clear hh h;rintro h bs ⟨hh,rfl⟩;obtain ⟨s_4,H1,H⟩:=zad H;repeat apply TW.seq
 refine cu [0,5] 1 (fun h bs=>(h 0=.ptr 0 0 2∧h 5=.int .i64 rb.1)∧bs=[.cells true 2 [byts rb.2.1,.int .i64 s_4]]) ?_ ?_
 ·skip;rcases isb H1 with ⟨c6,H1⟩|⟨c6,H1⟩;rotate_left
  ·skip;repeat apply TW.seq
   refine cf (f2 hh c6) ?_;repeat apply TW.seq
   refine sk ?_;cases H1;exact ce hh ⟨kq hh,rfl⟩
  repeat apply TW.seq
  refine ct (f2 hh c6) ?_;obtain ⟨rb3,e7,H1⟩:=zad H1;repeat apply TW.seq
  refine rkc [0,5] [] [(.tup [],stL [.cells true 2 [byts rb.2.1,.int .i64 rb3]])] (f2 hh c6) ?_ ?_
  ·exact ⟨ca [0] (zbt ax hx k 2 rb.2.1 s_2 rb3 e7),trivial⟩
  clear hh h;intro h hh;cases H1;exact ce hh ⟨kq hh,rfl⟩
 clear hh h;rintro h bs ⟨hh,rfl⟩;repeat apply TW.seq
 refine rk [5,35] [] hh ?_;clear hh h;intro h hh;rcases isp H with ⟨c8,H⟩|⟨c8,H⟩;rotate_left
 ·skip;repeat apply TW.seq
  refine cf (f2 hh (decide_eq_false c8)) ?_;repeat apply TW.seq
  refine sk ?_;repeat apply TW.seq
  refine rk [4] [] hh ?_;clear hh h;intro h hh;cases H;exact rtB hh
 repeat apply TW.seq
 refine ct (f2 hh (decide_eq_true c8)) ?_;repeat apply TW.seq
 refine rk [4] [] hh ?_;clear hh h;intro h hh;cases H;exact rtB hh
def zai (k:Nat) (many:Int) (x0:List Int) (x02:Int):Option (List Int×List Int×Int):=(if x02≠0 then (if (0:Int)≤many∧many.toNat*9≤1000000000 then some (List.replicate many.toNat 0,x0,x02) else none) else ((zhl k x0).bind fun rGetInts=>((zae k rGetInts.2.2 x0 x02).bind fun rb=>(if (0:Int)≤rGetInts.2.1∧rGetInts.2.1≤(x0.length:Int) then (((if rb=0 then some (decide ((rGetInts.1.length:Int)≠many)) else some false):Option Bool).bind fun s_=>(((if s_=true then ((zae k 6 (x0.drop rGetInts.2.1.toNat) rb).bind fun rb2=>some rb2) else some rb):Option Int).bind fun s_2=>(if s_2≠0 then (if (0:Int)≤many∧many.toNat*9≤1000000000 then some (List.replicate many.toNat 0,x0.drop rGetInts.2.1.toNat,s_2) else none) else some (rGetInts.1,x0.drop rGetInts.2.1.toNat,s_2)))) else none))))
set_option maxHeartbeats 8000000 in
theorem zhi (ax:Axs) (hx:zb7 ax) (k:Nat) (many:Int) (x0:List Int) (x02:Int) (v:List Int×List Int×Int) (H:zai k many x0 x02=some v):Call Tryz.prog (EE ax) [] 94 [.ptr 0 0 2,.int .i64 many] (stL [.cells true 2 [byts x0,.int .i64 x02]]) (tupT [ints v.1]) (stL [.cells true 2 [byts v.2.1,.int .i64 v.2.2]]):=by
 rw [zai] at H;refine enB [.tmp 4] 57 [0,1] (hx.no _ (by decide)) (fn94 ax) ?_;intro h hh;repeat apply TW.seq
 refine rk [0,1] [] hh ?_;clear hh h;intro h hh;repeat apply TW.seq
 refine rk [0,1,12] [] hh ?_;clear hh h;intro h hh;rcases isp H with ⟨c1,H⟩|⟨c1,H⟩;rotate_left
 ·skip;repeat apply TW.seq
  refine cf (f2 hh (decide_eq_false c1)) ?_;repeat apply TW.seq
  refine sk ?_;obtain ⟨rGetInts,e3,H⟩:=zad H;repeat apply TW.seq
  refine rkc [0,1,5,6,7] [] [(.tup [ints rGetInts.1,.int .i64 rGetInts.2.1,.int .i64 rGetInts.2.2],stL [.cells true 2 [byts x0,.int .i64 x02]])] hh ?_ ?_
  ·exact ⟨zau.call ((zqd ax hx k x0 rGetInts e3 ).call _),trivial⟩
  clear hh h;intro h hh;obtain ⟨rb,e4,H⟩:=zad H;repeat apply TW.seq
  refine rkc [0,1,5,6] [] [(.tup [],stL [.cells true 2 [byts x0,.int .i64 rb]])] hh ?_ ?_
  ·exact ⟨ca [0] (zbt ax hx k rGetInts.2.2 x0 x02 rb e4),trivial⟩
  clear hh h;intro h hh;obtain ⟨g5,H⟩:=isg H;repeat apply TW.seq
  refine rk [0,1,5] [] (f3 hh (znm g5) (zh4 (T.int .u8) x0)) ?_;clear hh h;intro h hh;obtain ⟨s_,H1,H⟩:=zad H;repeat apply TW.seq
  refine cu [0,1,5,46] 1 (fun h bs=>(h 0=.ptr 0 0 2∧h 1=.int .i64 many∧h 5=ints rGetInts.1∧h 46=.bool s_)∧bs=[.cells true 2 [byts (x0.drop rGetInts.2.1.toNat),.int .i64 rb]]) ?_ ?_
  ·skip;rcases isp H1 with ⟨c6,H1⟩|⟨c6,H1⟩;rotate_left
   ·skip;repeat apply TW.seq
    refine rk [0,1,5,46] [] (f2 hh (decide_eq_false c6)) ?_;clear hh h;intro h hh;cases H1;exact ce hh ⟨kq hh,rfl⟩
   repeat apply TW.seq
   refine rk [0,1,5,46] [] (f2 hh (decide_eq_true c6)) ?_;clear hh h;intro h hh;cases H1;exact ce hh ⟨kq hh,rfl⟩
  clear hh h;rintro h bs ⟨hh,rfl⟩;obtain ⟨s_2,H1,H⟩:=zad H;repeat apply TW.seq
  refine cu [0,1,5] 1 (fun h bs=>(h 0=.ptr 0 0 2∧h 1=.int .i64 many∧h 5=ints rGetInts.1)∧bs=[.cells true 2 [byts (x0.drop rGetInts.2.1.toNat),.int .i64 s_2]]) ?_ ?_
  ·skip;rcases isb H1 with ⟨c7,H1⟩|⟨c7,H1⟩;rotate_left
   ·skip;repeat apply TW.seq
    refine cf (f2 hh c7) ?_;repeat apply TW.seq
    refine sk ?_;cases H1;exact ce hh ⟨kq hh,rfl⟩
   repeat apply TW.seq
   refine ct (f2 hh c7) ?_;obtain ⟨rb2,e8,H1⟩:=zad H1;repeat apply TW.seq
   refine rkc [0,1,5] [] [(.tup [],stL [.cells true 2 [byts (x0.drop rGetInts.2.1.toNat),.int .i64 rb2]])] (f2 hh c7) ?_ ?_
   ·exact ⟨ca [0] (zbt ax hx k 6 (x0.drop rGetInts.2.1.toNat) rb rb2 e8),trivial⟩
   clear hh h;intro h hh;cases H1;exact ce hh ⟨kq hh,rfl⟩
  clear hh h;rintro h bs ⟨hh,rfl⟩;repeat apply TW.seq
  refine rk [1,5,53] [] hh ?_;clear hh h;intro h hh;rcases isp H with ⟨c9,H⟩|⟨c9,H⟩;rotate_left
  ·skip;repeat apply TW.seq
   refine cf (f2 hh (decide_eq_false c9)) ?_;repeat apply TW.seq
   refine sk ?_;repeat apply TW.seq
   refine rk [4] [] hh ?_;clear hh h;intro h hh;cases H;exact rtB hh
  repeat apply TW.seq
  refine ct (f2 hh (decide_eq_true c9)) ?_;obtain ⟨g10,H⟩:=isg H;repeat apply TW.seq
  refine rk [4] [] hh ?_;clear hh h;intro h hh;refine TW.freeze 4 (b:=1) (e:=1) (off:=0) (len:=many.toNat) (cap:=many.toNat) (M:=many.toNat) ((List.replicate many.toNat 0).map (T.int .i64)) (kq hh) (by rfl) (by omega) (by omega) (by rw [List.drop_zero,Nat.mul_one,zbv (fun _=>rfl),List.take_of_length_le (by rw [List.length_map,List.length_replicate];omega)]) (fun t ht=>by obtain ⟨x,_,rfl⟩:=List.mem_map.1 ht;first|rfl|exact zd2 _|exact zci _|exact zbz _|exact zbe _ | (rw [List.length_map];rfl)) (by rw [List.length_map];exact List.length_replicate) (by omega) ?_;rw [zeb _ _ _ (by simp only [lzA]<;>omega)];simp only [scA];refine gk [4] hh ?_;clear hh h;intro h hh;cases H;exact rtB hh
 repeat apply TW.seq
 refine ct (f2 hh (decide_eq_true c1)) ?_;obtain ⟨g2,H⟩:=isg H;repeat apply TW.seq
 refine rk [4] [] hh ?_;clear hh h;intro h hh;refine TW.freeze 4 (b:=1) (e:=1) (off:=0) (len:=many.toNat) (cap:=many.toNat) (M:=many.toNat) ((List.replicate many.toNat 0).map (T.int .i64)) (kq hh) (by rfl) (by omega) (by omega) (by rw [List.drop_zero,Nat.mul_one,zbv (fun _=>rfl),List.take_of_length_le (by rw [List.length_map,List.length_replicate];omega)]) (fun t ht=>by obtain ⟨x,_,rfl⟩:=List.mem_map.1 ht;first|rfl|exact zd2 _|exact zci _|exact zbz _|exact zbe _ | (rw [List.length_map];rfl)) (by rw [List.length_map];exact List.length_replicate) (by omega) ?_;rw [zeb _ _ _ (by simp only [lzA]<;>omega)];simp only [scA];refine gk [4] hh ?_;clear hh h;intro h hh;cases H;exact rtB hh
def za8 (k:Nat) (rb:List Int×List Int×Int):Nat→Int→(Ar 10)→Option (Ar 10)
 |0,_,_=>none
 |m+1,k_,x=>(if k_<10 then (if (0:Int)≤k_∧k_<(rb.1.length:Int) then (if (0:Int)≤k_∧k_<(10:Int) then za8 k rb m (IntKind.i64.wrap (k_+1)) (x.set k_ (gx rb.1 k_)) else none) else none) else some x)
def zah (k:Nat) (x0:List Int) (x02:Int):Option (Ar 10×List Int×Int):=((zai k 10 x0 x02).bind fun rb=>((za8 k rb k 0 (zA 10):Option (Ar 10)).bind fun s_=>some (s_,rb.2.1,rb.2.2)))
set_option maxHeartbeats 8000000 in
theorem zdl (ax:Axs) (hx:zb7 ax) (k:Nat) (x0:List Int) (x02:Int) (v:Ar 10×List Int×Int) (H:zah k x0 x02=some v):Call Tryz.prog (EE ax) [] 95 [.ptr 0 0 2] (stL [.cells true 2 [byts x0,.int .i64 x02]]) (tupT [.agg (v.1.l.map (T.int .i64))]) (stL [.cells true 2 [byts v.2.1,.int .i64 v.2.2]]):=by
 rw [zah] at H;refine enB [.cell 2 39] 19 [0] (hx.no _ (by decide)) (fn95 ax) ?_;intro h hh;repeat apply TW.seq
 refine rk [0,2] [] hh ?_;clear hh h;intro h hh;obtain ⟨rb,e1,H⟩:=zad H;repeat apply TW.seq
 refine rkc [2,3] [] [(ints rb.1,stL [.cells true 2 [byts rb.2.1,.int .i64 rb.2.2],.cells true 10 ((zA 10).l.map (T.int .i64))])] hh ?_ ?_
 ·exact ⟨ca [0] (zhi ax hx k 10 x0 x02 rb e1),trivial⟩
 clear hh h;intro h hh;repeat apply TW.seq
 refine rk [2,3,4] [] hh ?_;clear hh h;intro h hh;repeat apply TW.seq
 refine rk [2,3,4,5] [] hh ?_;clear hh h;intro h hh;obtain ⟨s_,H1,H⟩:=zad H;repeat apply TW.seq
 refine cu [2,4] 3 (fun h bs=>(h 2=.ptr 1 0 10∧h 4=.ptr 2 0 10)∧bs=[.cells true 2 [byts rb.2.1,.int .i64 rb.2.2],.cells true 10 ((zA 10).l.map (T.int .i64)),.cells true 10 (s_.l.map (T.int .i64))]) ?_ ?_
 ·skip;repeat apply TW.seq
  apply TW.block;repeat apply TW.seq
  refine TW.loopT [2,3,4,5] (fun m h bs=>∃ (k_:Int) (x:Ar 10),za8 k rb m k_ x=some s_∧(h 2=.ptr 1 0 10∧h 3=ints rb.1∧h 4=.ptr 2 0 10∧h 5=.int .i64 k_)∧bs=[.cells true 2 [byts rb.2.1,.int .i64 rb.2.2],.cells true 10 ((zA 10).l.map (T.int .i64)),.cells true 10 (x.l.map (T.int .i64))]) ?_ k _ _ ?_;rotate_left
  ·exact ⟨0,(zA 10),H1,kq hh,rfl⟩
  clear hh h H1;rintro m h bs ⟨k_,x,H1,hh,rfl⟩;rcases m with _|m
  ·rw [za8] at H1;cases H1
  rw [za8] at H1;repeat apply TW.seq
  refine rk [2,3,4,5,9] [] hh ?_;clear hh h;intro h hh;rcases isp H1 with ⟨c2,H1⟩|⟨c2,H1⟩;rotate_left
  ·skip;repeat apply TW.seq
   refine cf (f2 hh (decide_eq_false c2)) ?_;refine xk ?_;cases H1;exact ce hh ⟨kq hh,rfl⟩
  repeat apply TW.seq
  refine ct (f2 hh (decide_eq_true c2)) ?_;repeat apply TW.seq
  refine sk ?_;repeat apply TW.seq
  apply TW.block;obtain ⟨g3,H1⟩:=isg H1;obtain ⟨g4,H1⟩:=isg H1;repeat apply TW.seq
  refine rk [2,3,4,5] [] (f3 hh (za7 g3) (ykh (k:=.i64) x (gx rb.1 k_) g4)) ?_;clear hh h;intro h hh;repeat apply TW.seq
  refine rk [2,3,4,5] [] hh ?_;clear hh h;intro h hh;exact rd m hh ⟨(IntKind.i64.wrap (k_+1)),(x.set k_ (gx rb.1 k_)),H1,kq hh,rfl⟩
 clear hh h;rintro h bs ⟨hh,rfl⟩;repeat apply TW.seq
 refine rk [2] [] hh ?_;clear hh h;intro h hh;cases H;exact rtBc hh
def zap (k:Nat) (rb6:Int×List Int×Int):Nat→Int→(List Int)→Int→(List Alt)→Nat→Option (List Int×Int×List Alt×Nat)
 |0,_,_,_,_,_=>none
 |m+1,j,x5,x6,l3,n3=>(((if j<rb6.1 then some (decide (x6=0)) else some false):Option Bool).bind fun s_8=>(if s_8=true then ((za5 k x5 x6).bind fun rb7=>((zah k rb7.2.1 rb7.2.2).bind fun rb8=>((zah k rb8.2.1 rb8.2.2).bind fun rb9=>(if (n3+1)*169≤1000000000 then zap k rb6 m (IntKind.i64.wrap (j+1)) rb9.2.1 rb9.2.2 (l3++[(⟨rb7.1,(⟨rb8.1,rb9.1⟩:Pat)⟩:Alt)]) (n3+1) else none)))) else some (x5,x6,l3,n3)))
def zaq (k:Nat) (rb5:Int×List Int×Int):Nat→Int→(List Int)→Int→(List (List Alt))→Nat→Option (List Int×Int×List (List Alt)×Nat)
 |0,_,_,_,_,_=>none
 |m+1,i,x3,x4,l2,n2=>(((if i<rb5.1 then some (decide (x4=0)) else some false):Option Bool).bind fun s_5=>(if s_5=true then ((((zab k 8 x3 x4).bind fun rb6=>((zap k rb6 k 0 rb6.2.1 rb6.2.2 [] 0:Option (List Int×Int×List Alt×Nat)).bind fun s_7=>(if s_7.2.2.1.length=s_7.2.2.2 then (if (n2+1)*25≤1000000000 then some (s_7.1,s_7.2.1,l2++[s_7.2.2.1]) else none) else none))):Option (List Int×Int×List (List Alt))).bind fun s_6=>zaq k rb5 m (IntKind.i64.wrap (i+1)) s_6.1 s_6.2.1 s_6.2.2 (n2+1)) else some (x3,x4,l2,n2)))
def zar (k:Nat) (rb:Int×List Int×Int):Nat→Int→(List Int)→Int→(List Rule)→Nat→Option (List Int×Int×List Rule×Nat)
 |0,_,_,_,_,_=>none
 |m+1,k_,x,x2,l,n=>(((if k_<rb.1 then some (decide (x2=0)) else some false):Option Bool).bind fun s_2=>(if s_2=true then ((((zai k 2 x x2).bind fun rb2=>(if (0:Int)≤0∧0<(rb2.1.length:Int) then (if (0:Int)≤1∧1<(rb2.1.length:Int) then ((zah k rb2.2.1 rb2.2.2).bind fun rb3=>((zah k rb3.2.1 rb3.2.2).bind fun rb4=>((zab k 16 rb4.2.1 rb4.2.2).bind fun rb5=>((zaq k rb5 k 0 rb5.2.1 rb5.2.2 [] 0:Option (List Int×Int×List (List Alt)×Nat)).bind fun s_4=>(if s_4.2.2.1.length=s_4.2.2.2 then (if (n+1)*201≤1000000000 then some (s_4.1,s_4.2.1,l++[(⟨gx rb2.1 0,(⟨rb3.1,rb4.1⟩:Pat),gx rb2.1 1,s_4.2.2.1⟩:Rule)]) else none) else none))))) else none) else none)):Option (List Int×Int×List Rule)).bind fun s_3=>zar k rb m (IntKind.i64.wrap (k_+1)) s_3.1 s_3.2.1 s_3.2.2 (n+1)) else some (x,x2,l,n)))
def zg2 (k:Nat) (b:List Int):Option (List Rule×Int):=((zab k 4000 b 0).bind fun rb=>((zar k rb k 0 rb.2.1 rb.2.2 [] 0:Option (List Int×Int×List Rule×Nat)).bind fun s_=>(((if s_.2.1=0 then some (decide (0<(s_.1.length:Int))) else some false):Option Bool).bind fun s_9=>(((if s_9=true then ((zae k 6 s_.1 s_.2.1).bind fun rb10=>some rb10) else some s_.2.1):Option Int).bind fun s_10=>(if s_10≠0 then some ([],s_10) else (if s_.2.2.1.length=s_.2.2.2 then some (s_.2.2.1,0) else none))))))
set_option maxHeartbeats 8000000 in
theorem zsb (ax:Axs) (hx:zb7 ax) (k:Nat) (b:List Int) (v:List Rule×Int) (H:zg2 k b=some v):Pure Tryz.prog (EE ax) [] 42 [byts b] (tupT [zat v.1,.int .i64 v.2]):=by
 rw [zg2] at H;refine enN [.tmp 2,.tmp 3] 128 [0] (hx.no _ (by decide)) (fn42 ax) ?_;intro h hh;repeat apply TW.seq
 refine rk [0] [] hh ?_;clear hh h;intro h hh;repeat apply TW.seq
 refine rk [4] [] hh ?_;clear hh h;intro h hh;repeat apply TW.seq
 refine rk [4,5] [] hh ?_;clear hh h;intro h hh;refine vk 5 23 [4,5] hh ?_;clear hh h;intro h hh;obtain ⟨rb,e1,H⟩:=zad H;repeat apply TW.seq
 refine rkc [4,5,6] [] [(.int .i64 rb.1,stL [.cells true 2 [byts rb.2.1,.int .i64 rb.2.2],.cells false 0 (vecC zb6 [])])] hh ?_ ?_
 ·exact ⟨ca [0] (zes ax hx k 4000 b 0 rb e1),trivial⟩
 clear hh h;intro h hh;repeat apply TW.seq
 refine rk [4,5,6,7] [] hh ?_;clear hh h;intro h hh;obtain ⟨s_,H1,H⟩:=zad H;repeat apply TW.seq
 refine cu [4,5] 2 (fun h bs=>(h 4=.ptr 0 0 2∧h 5=.arr 1 23 0 s_.2.2.2 s_.2.2.2 (s_.2.2.2*23))∧bs=[.cells true 2 [byts s_.1,.int .i64 s_.2.1],.cells false (s_.2.2.2*23) (vecC zb6 s_.2.2.1)]) ?_ ?_
 ·skip;repeat apply TW.seq
  apply TW.block;repeat apply TW.seq
  refine TW.loopT [4,5,6,7] (fun m h bs=>∃ (k_:Int) (x:List Int) (x2:Int) (l:List Rule) (n:Nat),zar k rb m k_ x x2 l n=some s_∧(h 4=.ptr 0 0 2∧h 5=.arr 1 23 0 n n (n*23)∧h 6=.int .i64 rb.1∧h 7=.int .i64 k_)∧bs=[.cells true 2 [byts x,.int .i64 x2],.cells false (n*23) (vecC zb6 l)]) ?_ k _ _ ?_;rotate_left
  ·exact ⟨0,rb.2.1,rb.2.2,[],0,H1,kq hh,rfl⟩
  clear hh h H1;rintro m h bs ⟨k_,x,x2,l,n,H1,hh,rfl⟩;rcases m with _|m
  ·rw [zar] at H1;cases H1
  rw [zar] at H1;obtain ⟨s_2,H2,H1⟩:=zad H1;repeat apply TW.seq
  refine cu [4,5,6,7,30] 2 (fun h bs=>(h 4=.ptr 0 0 2∧h 5=.arr 1 23 0 n n (n*23)∧h 6=.int .i64 rb.1∧h 7=.int .i64 k_∧h 30=.bool s_2)∧bs=[.cells true 2 [byts x,.int .i64 x2],.cells false (n*23) (vecC zb6 l)]) ?_ ?_
  ·skip;rcases isp H2 with ⟨c2,H2⟩|⟨c2,H2⟩;rotate_left
   ·skip;repeat apply TW.seq
    refine rk [4,5,6,7,30] [] (f2 hh (decide_eq_false c2)) ?_;clear hh h;intro h hh;cases H2;exact ce hh ⟨kq hh,rfl⟩
   repeat apply TW.seq
   refine rk [4,5,6,7,30] [] (f2 hh (decide_eq_true c2)) ?_;clear hh h;intro h hh;cases H2;exact ce hh ⟨kq hh,rfl⟩
  clear hh h;rintro h bs ⟨hh,rfl⟩;rcases isb H1 with ⟨c3,H1⟩|⟨c3,H1⟩;rotate_left
  ·skip;repeat apply TW.seq
   refine cf (f2 hh c3) ?_;refine xk ?_;cases H1;exact ce hh ⟨kq hh,rfl⟩
  repeat apply TW.seq
  refine ct (f2 hh c3) ?_;repeat apply TW.seq
  refine sk ?_;obtain ⟨s_3,H2,H1⟩:=zad H1;repeat apply TW.seq
  refine cu [4,5,6,7] 2 (fun h bs=>(h 4=.ptr 0 0 2∧h 5=.arr 1 23 0 (n+1) (n+1) ((n+1)*23)∧h 6=.int .i64 rb.1∧h 7=.int .i64 k_)∧bs=[.cells true 2 [byts s_3.1,.int .i64 s_3.2.1],.cells false ((n+1)*23) (vecC zb6 s_3.2.2)]) ?_ ?_
  ·skip;repeat apply TW.seq
   apply TW.block;obtain ⟨rb2,e4,H2⟩:=zad H2;repeat apply TW.seq
   refine rkc [4,5,6,7,8] [] [(ints rb2.1,stL [.cells true 2 [byts rb2.2.1,.int .i64 rb2.2.2],.cells false (n*23) (vecC zb6 l)])] (f2 hh c3) ?_ ?_
   ·exact ⟨ca [0] (zhi ax hx k 2 x x2 rb2 e4),trivial⟩
   clear hh h;intro h hh;obtain ⟨g5,H2⟩:=isg H2;obtain ⟨g6,H2⟩:=isg H2;repeat apply TW.seq
   refine dk 6 [4,5,6,7,9] [] [] [] (f3 hh c3 (f2 (za7 g5) (za7 g6))) trivial trivial ?_;clear hh h;intro h hh;refine vz 2 22 1 ?_;obtain ⟨rb3,e7,H2⟩:=zad H2;repeat apply TW.seq
   refine rkc [4,5,6,7,9] [] [(.agg (rb3.1.l.map (T.int .i64)),stL [.cells true 2 [byts rb3.2.1,.int .i64 rb3.2.2],.cells false (n*23) (vecC zb6 l),.cells true 23 (T.int .i64 (gx rb2.1 0) :: ((zA 10).l.map (T.int .i64)++((zA 10).l.map (T.int .i64)++[T.int .i64 (gx rb2.1 1),T.arr 3 1 0 0 0 0]))),.cells false 0 ([].map lAlt)])] (f2 hh c3) ?_ ?_
   ·exact ⟨ca [0] (zdl ax hx k rb2.2.1 rb2.2.2 rb3 e7),trivial⟩
   clear hh h;intro h hh;obtain ⟨rb4,e8,H2⟩:=zad H2;repeat apply TW.seq
   refine rkc [4,5,6,7,9] [] [(.agg (rb4.1.l.map (T.int .i64)),stL [.cells true 2 [byts rb4.2.1,.int .i64 rb4.2.2],.cells false (n*23) (vecC zb6 l),.cells true 23 (T.int .i64 (gx rb2.1 0) :: (rb3.1.l.map (T.int .i64)++((zA 10).l.map (T.int .i64)++[T.int .i64 (gx rb2.1 1),T.arr 3 1 0 0 0 0]))),.cells false 0 ([].map lAlt)])] (f2 hh c3) ?_ ?_
   ·exact ⟨ca [0] (zdl ax hx k rb3.2.1 rb3.2.2 rb4 e8),trivial⟩
   clear hh h;intro h hh;obtain ⟨rb5,e9,H2⟩:=zad H2;repeat apply TW.seq
   refine rkc [4,5,6,7,9,10] [] [(.int .i64 rb5.1,stL [.cells true 2 [byts rb5.2.1,.int .i64 rb5.2.2],.cells false (n*23) (vecC zb6 l),.cells true 23 (T.int .i64 (gx rb2.1 0) :: (rb3.1.l.map (T.int .i64)++(rb4.1.l.map (T.int .i64)++[T.int .i64 (gx rb2.1 1),T.arr 3 1 0 0 0 0]))),.cells false 0 ([].map lAlt)])] (f2 hh c3) ?_ ?_
   ·exact ⟨ca [0] (zes ax hx k 16 rb4.2.1 rb4.2.2 rb5 e9),trivial⟩
   clear hh h;intro h hh;repeat apply TW.seq
   refine rk [4,5,6,7,9,10,11] [] (f2 hh c3) ?_;clear hh h;intro h hh;obtain ⟨s_4,H3,H2⟩:=zad H2;repeat apply TW.seq
   refine cu [4,5,6,7,9] 4 (fun h bs=>(h 4=.ptr 0 0 2∧h 5=.arr 1 23 0 n n (n*23)∧h 6=.int .i64 rb.1∧h 7=.int .i64 k_∧h 9=.ptr 2 0 23)∧bs=[.cells true 2 [byts s_4.1,.int .i64 s_4.2.1],.cells false (n*23) (vecC zb6 l),.cells true 23 (T.int .i64 (gx rb2.1 0) :: (rb3.1.l.map (T.int .i64)++(rb4.1.l.map (T.int .i64)++[T.int .i64 (gx rb2.1 1),T.arr 3 1 0 s_4.2.2.2 s_4.2.2.2 s_4.2.2.2]))),.cells false s_4.2.2.2 (s_4.2.2.1.map lAlt)]) ?_ ?_
   ·skip;repeat apply TW.seq
    apply TW.block;repeat apply TW.seq
    refine TW.loopT [4,5,6,7,9,10,11] (fun m h bs=>∃ (i:Int) (x3:List Int) (x4:Int) (l2:List (List Alt)) (n2:Nat),zaq k rb5 m i x3 x4 l2 n2=some s_4∧(h 4=.ptr 0 0 2∧h 5=.arr 1 23 0 n n (n*23)∧h 6=.int .i64 rb.1∧h 7=.int .i64 k_∧h 9=.ptr 2 0 23∧h 10=.int .i64 rb5.1∧h 11=.int .i64 i)∧bs=[.cells true 2 [byts x3,.int .i64 x4],.cells false (n*23) (vecC zb6 l),.cells true 23 (T.int .i64 (gx rb2.1 0) :: (rb3.1.l.map (T.int .i64)++(rb4.1.l.map (T.int .i64)++[T.int .i64 (gx rb2.1 1),T.arr 3 1 0 n2 n2 n2]))),.cells false n2 (l2.map lAlt)]) ?_ k _ _ ?_;rotate_left
    ·exact ⟨0,rb5.2.1,rb5.2.2,[],0,H3,kq hh,rfl⟩
    clear hh h H3;rintro m h bs ⟨i,x3,x4,l2,n2,H3,hh,rfl⟩;rcases m with _|m
    ·rw [zaq] at H3;cases H3
    rw [zaq] at H3;obtain ⟨s_5,H4,H3⟩:=zad H3;repeat apply TW.seq
    refine cu [4,5,6,7,9,10,11,61] 4 (fun h bs=>(h 4=.ptr 0 0 2∧h 5=.arr 1 23 0 n n (n*23)∧h 6=.int .i64 rb.1∧h 7=.int .i64 k_∧h 9=.ptr 2 0 23∧h 10=.int .i64 rb5.1∧h 11=.int .i64 i∧h 61=.bool s_5)∧bs=[.cells true 2 [byts x3,.int .i64 x4],.cells false (n*23) (vecC zb6 l),.cells true 23 (T.int .i64 (gx rb2.1 0) :: (rb3.1.l.map (T.int .i64)++(rb4.1.l.map (T.int .i64)++[T.int .i64 (gx rb2.1 1),T.arr 3 1 0 n2 n2 n2]))),.cells false n2 (l2.map lAlt)]) ?_ ?_
    ·skip;rcases isp H4 with ⟨c10,H4⟩|⟨c10,H4⟩;rotate_left
     ·skip;repeat apply TW.seq
      refine rk [4,5,6,7,9,10,11,61] [] (f3 hh (decide_eq_false c10) c3) ?_;clear hh h;intro h hh;cases H4;exact ce hh ⟨kq hh,rfl⟩
     repeat apply TW.seq
     refine rk [4,5,6,7,9,10,11,61] [] (f3 hh (decide_eq_true c10) c3) ?_;clear hh h;intro h hh;cases H4;exact ce hh ⟨kq hh,rfl⟩
    clear hh h;rintro h bs ⟨hh,rfl⟩;rcases isb H3 with ⟨c11,H3⟩|⟨c11,H3⟩;rotate_left
    ·skip;repeat apply TW.seq
     refine cf (f2 hh c11) ?_;refine xk ?_;cases H3;exact ce hh ⟨kq hh,rfl⟩
    repeat apply TW.seq
    refine ct (f2 hh c11) ?_;repeat apply TW.seq
    refine sk ?_;obtain ⟨s_6,H4,H3⟩:=zad H3;repeat apply TW.seq
    refine cu [4,5,6,7,9,10,11] 4 (fun h bs=>(h 4=.ptr 0 0 2∧h 5=.arr 1 23 0 n n (n*23)∧h 6=.int .i64 rb.1∧h 7=.int .i64 k_∧h 9=.ptr 2 0 23∧h 10=.int .i64 rb5.1∧h 11=.int .i64 i)∧bs=[.cells true 2 [byts s_6.1,.int .i64 s_6.2.1],.cells false (n*23) (vecC zb6 l),.cells true 23 (T.int .i64 (gx rb2.1 0) :: (rb3.1.l.map (T.int .i64)++(rb4.1.l.map (T.int .i64)++[T.int .i64 (gx rb2.1 1),T.arr 3 1 0 (n2+1) (n2+1) (n2+1)]))),.cells false (n2+1) (s_6.2.2.map lAlt)]) ?_ ?_
    ·skip;repeat apply TW.seq
     apply TW.block;repeat apply TW.seq
     refine rk [4,5,6,7,9,10,11,12] [] (f3 hh c3 c11) ?_;clear hh h;intro h hh;refine vk 12 21 [4,5,6,7,9,10,11,12] hh ?_;clear hh h;intro h hh;obtain ⟨rb6,e12,H4⟩:=zad H4;repeat apply TW.seq
     refine rkc [4,5,6,7,9,10,11,12,13] [] [(.int .i64 rb6.1,stL [.cells true 2 [byts rb6.2.1,.int .i64 rb6.2.2],.cells false (n*23) (vecC zb6 l),.cells true 23 (T.int .i64 (gx rb2.1 0) :: (rb3.1.l.map (T.int .i64)++(rb4.1.l.map (T.int .i64)++[T.int .i64 (gx rb2.1 1),T.arr 3 1 0 n2 n2 n2]))),.cells false n2 (l2.map lAlt),.cells false 0 (vecC eAlt [])])] (f3 hh c3 c11) ?_ ?_
     ·exact ⟨ca [0] (zes ax hx k 8 x3 x4 rb6 e12),trivial⟩
     clear hh h;intro h hh;repeat apply TW.seq
     refine rk [4,5,6,7,9,10,11,12,13,14] [] (f3 hh c3 c11) ?_;clear hh h;intro h hh;obtain ⟨s_7,H5,H4⟩:=zad H4;repeat apply TW.seq
     refine cu [4,5,6,7,9,10,11,12] 5 (fun h bs=>(h 4=.ptr 0 0 2∧h 5=.arr 1 23 0 n n (n*23)∧h 6=.int .i64 rb.1∧h 7=.int .i64 k_∧h 9=.ptr 2 0 23∧h 10=.int .i64 rb5.1∧h 11=.int .i64 i∧h 12=.arr 4 21 0 s_7.2.2.2 s_7.2.2.2 (s_7.2.2.2*21))∧bs=[.cells true 2 [byts s_7.1,.int .i64 s_7.2.1],.cells false (n*23) (vecC zb6 l),.cells true 23 (T.int .i64 (gx rb2.1 0) :: (rb3.1.l.map (T.int .i64)++(rb4.1.l.map (T.int .i64)++[T.int .i64 (gx rb2.1 1),T.arr 3 1 0 n2 n2 n2]))),.cells false n2 (l2.map lAlt),.cells false (s_7.2.2.2*21) (vecC eAlt s_7.2.2.1)]) ?_ ?_
     ·skip;repeat apply TW.seq
      apply TW.block;repeat apply TW.seq
      refine TW.loopT [4,5,6,7,9,10,11,12,13,14] (fun m h bs=>∃ (j:Int) (x5:List Int) (x6:Int) (l3:List Alt) (n3:Nat),zap k rb6 m j x5 x6 l3 n3=some s_7∧(h 4=.ptr 0 0 2∧h 5=.arr 1 23 0 n n (n*23)∧h 6=.int .i64 rb.1∧h 7=.int .i64 k_∧h 9=.ptr 2 0 23∧h 10=.int .i64 rb5.1∧h 11=.int .i64 i∧h 12=.arr 4 21 0 n3 n3 (n3*21)∧h 13=.int .i64 rb6.1∧h 14=.int .i64 j)∧bs=[.cells true 2 [byts x5,.int .i64 x6],.cells false (n*23) (vecC zb6 l),.cells true 23 (T.int .i64 (gx rb2.1 0) :: (rb3.1.l.map (T.int .i64)++(rb4.1.l.map (T.int .i64)++[T.int .i64 (gx rb2.1 1),T.arr 3 1 0 n2 n2 n2]))),.cells false n2 (l2.map lAlt),.cells false (n3*21) (vecC eAlt l3)]) ?_ k _ _ ?_;rotate_left
      ·exact ⟨0,rb6.2.1,rb6.2.2,[],0,H5,kq hh,rfl⟩
      clear hh h H5;rintro m h bs ⟨j,x5,x6,l3,n3,H5,hh,rfl⟩;rcases m with _|m
      ·rw [zap] at H5;cases H5
      rw [zap] at H5;obtain ⟨s_8,H6,H5⟩:=zad H5;repeat apply TW.seq
      refine cu [4,5,6,7,9,10,11,12,13,14,75] 5 (fun h bs=>(h 4=.ptr 0 0 2∧h 5=.arr 1 23 0 n n (n*23)∧h 6=.int .i64 rb.1∧h 7=.int .i64 k_∧h 9=.ptr 2 0 23∧h 10=.int .i64 rb5.1∧h 11=.int .i64 i∧h 12=.arr 4 21 0 n3 n3 (n3*21)∧h 13=.int .i64 rb6.1∧h 14=.int .i64 j∧h 75=.bool s_8)∧bs=[.cells true 2 [byts x5,.int .i64 x6],.cells false (n*23) (vecC zb6 l),.cells true 23 (T.int .i64 (gx rb2.1 0) :: (rb3.1.l.map (T.int .i64)++(rb4.1.l.map (T.int .i64)++[T.int .i64 (gx rb2.1 1),T.arr 3 1 0 n2 n2 n2]))),.cells false n2 (l2.map lAlt),.cells false (n3*21) (vecC eAlt l3)]) ?_ ?_
      ·skip;rcases isp H6 with ⟨c13,H6⟩|⟨c13,H6⟩;rotate_left
       ·skip;repeat apply TW.seq
        refine rk [4,5,6,7,9,10,11,12,13,14,75] [] (f3 hh (decide_eq_false c13) (f2 c3 c11)) ?_;clear hh h;intro h hh;cases H6;exact ce hh ⟨kq hh,rfl⟩
       repeat apply TW.seq
       refine rk [4,5,6,7,9,10,11,12,13,14,75] [] (f3 hh (decide_eq_true c13) (f2 c3 c11)) ?_;clear hh h;intro h hh;cases H6;exact ce hh ⟨kq hh,rfl⟩
      clear hh h;rintro h bs ⟨hh,rfl⟩;rcases isb H5 with ⟨c14,H5⟩|⟨c14,H5⟩;rotate_left
      ·skip;repeat apply TW.seq
       refine cf (f2 hh c14) ?_;refine xk ?_;cases H5;exact ce hh ⟨kq hh,rfl⟩
      repeat apply TW.seq
      refine ct (f2 hh c14) ?_;repeat apply TW.seq
      refine sk ?_;repeat apply TW.seq
      apply TW.block;obtain ⟨rb7,e15,H5⟩:=zad H5;repeat apply TW.seq
      refine rkc [4,5,6,7,9,10,11,12,13,14,15] [] [(.int .i64 rb7.1,stL [.cells true 2 [byts rb7.2.1,.int .i64 rb7.2.2],.cells false (n*23) (vecC zb6 l),.cells true 23 (T.int .i64 (gx rb2.1 0) :: (rb3.1.l.map (T.int .i64)++(rb4.1.l.map (T.int .i64)++[T.int .i64 (gx rb2.1 1),T.arr 3 1 0 n2 n2 n2]))),.cells false n2 (l2.map lAlt),.cells false (n3*21) (vecC eAlt l3)])] (f3 hh c3 (f2 c11 c14)) ?_ ?_
      ·exact ⟨ca [0] (zhx ax hx k x5 x6 rb7 e15),trivial⟩
      clear hh h;intro h hh;obtain ⟨rb8,e16,H5⟩:=zad H5;repeat apply TW.seq
      refine rkc [4,5,6,7,9,10,11,12,13,14,15] [] [(.agg (rb8.1.l.map (T.int .i64)),stL [.cells true 2 [byts rb8.2.1,.int .i64 rb8.2.2],.cells false (n*23) (vecC zb6 l),.cells true 23 (T.int .i64 (gx rb2.1 0) :: (rb3.1.l.map (T.int .i64)++(rb4.1.l.map (T.int .i64)++[T.int .i64 (gx rb2.1 1),T.arr 3 1 0 n2 n2 n2]))),.cells false n2 (l2.map lAlt),.cells false (n3*21) (vecC eAlt l3),.cells true 21 (T.int .i64 rb7.1 :: ((zA 10).l.map (T.int .i64)++((zA 10).l.map (T.int .i64))))])] (f3 hh c3 (f2 c11 c14)) ?_ ?_
      ·exact ⟨ca [0] (zdl ax hx k rb7.2.1 rb7.2.2 rb8 e16),trivial⟩
      clear hh h;intro h hh;obtain ⟨rb9,e17,H5⟩:=zad H5;repeat apply TW.seq
      refine rkc [4,5,6,7,9,10,11,12,13,14,15] [] [(.agg (rb9.1.l.map (T.int .i64)),stL [.cells true 2 [byts rb9.2.1,.int .i64 rb9.2.2],.cells false (n*23) (vecC zb6 l),.cells true 23 (T.int .i64 (gx rb2.1 0) :: (rb3.1.l.map (T.int .i64)++(rb4.1.l.map (T.int .i64)++[T.int .i64 (gx rb2.1 1),T.arr 3 1 0 n2 n2 n2]))),.cells false n2 (l2.map lAlt),.cells false (n3*21) (vecC eAlt l3),.cells true 21 (T.int .i64 rb7.1 :: (rb8.1.l.map (T.int .i64)++((zA 10).l.map (T.int .i64))))])] (f3 hh c3 (f2 c11 c14)) ?_ ?_
      ·exact ⟨ca [0] (zdl ax hx k rb8.2.1 rb8.2.2 rb9 e17),trivial⟩
      clear hh h;intro h hh;obtain ⟨g18,H5⟩:=isg H5;repeat apply TW.seq
      refine rg [] [] [.cells true 2 [byts rb9.2.1,.int .i64 rb9.2.2],.cells false (n*23) (vecC zb6 l),.cells true 23 (T.int .i64 (gx rb2.1 0) :: (rb3.1.l.map (T.int .i64)++(rb4.1.l.map (T.int .i64)++[T.int .i64 (gx rb2.1 1),T.arr 3 1 0 n2 n2 n2]))),.cells false n2 (l2.map lAlt),.cells false ((n3+1)*21) (vecC eAlt (l3++[(⟨rb7.1,(⟨rb8.1,rb9.1⟩:Pat)⟩:Alt)])),.cells true 21 (T.int .i64 rb7.1 :: (rb8.1.l.map (T.int .i64)++(rb9.1.l.map (T.int .i64))))] (fun h=>h 4=.ptr 0 0 2∧h 5=.arr 1 23 0 n n (n*23)∧h 6=.int .i64 rb.1∧h 7=.int .i64 k_∧h 9=.ptr 2 0 23∧h 10=.int .i64 rb5.1∧h 11=.int .i64 i∧h 12=.arr 4 21 0 (n3+1) (n3+1) ((n3+1)*21)∧h 13=.int .i64 rb6.1∧h 14=.int .i64 j) (f3 hh c3 (f3 c11 c14 ((show vecC eAlt [(⟨rb7.1,(⟨rb8.1,rb9.1⟩:Pat)⟩:Alt)]=(T.int .i64 ((⟨rb7.1,(⟨rb8.1,rb9.1⟩:Pat)⟩:Alt).link) :: ((((⟨rb7.1,(⟨rb8.1,rb9.1⟩:Pat)⟩:Alt).mod).mask).l.map (T.int .i64)++((((⟨rb7.1,(⟨rb8.1,rb9.1⟩:Pat)⟩:Alt).mod).bits).l.map (T.int .i64)))) from zpd.trans rfl)))) trivial ?_;clear hh h;intro h hh;repeat apply TW.seq
      refine rk [4,5,6,7,9,10,11,12,13,14] [] (f3 hh c3 (f2 c11 c14)) ?_;clear hh h;intro h hh;exact rd m hh ⟨(IntKind.i64.wrap (j+1)),rb9.2.1,rb9.2.2,(l3++[(⟨rb7.1,(⟨rb8.1,rb9.1⟩:Pat)⟩:Alt)]),(n3+1),H5,kq hh,rfl⟩
     clear hh h;rintro h bs ⟨hh,rfl⟩;obtain ⟨g19,H4⟩:=isg H4;repeat apply TW.seq
     refine TW.freeze 12 (b:=4) (e:=21) (off:=0) (len:=s_7.2.2.2) (cap:=s_7.2.2.2) (M:=(s_7.2.2.2*21)) (s_7.2.2.1.map eAlt) (kq hh) (by rfl) (by omega) (by omega) (by rw [List.drop_zero];exact zml (e:=21) (fun x=>zbz x) g19) (fun t ht=>by obtain ⟨x,_,rfl⟩:=List.mem_map.1 ht;first|rfl|exact zd2 _|exact zci _|exact zbz _|exact zbe _ | (rw [List.length_map];rfl)) (by rw [List.length_map];exact g19) (by omega) ?_;rw [zeb _ _ _ (by simp only [lzA]<;>omega)];simp only [scA];refine gk [4,5,6,7,9,10,11,12] hh ?_;clear hh h;intro h hh;obtain ⟨g20,H4⟩:=isg H4;repeat apply TW.seq
     refine rg [] [] [.cells true 2 [byts s_7.1,.int .i64 s_7.2.1],.cells false (n*23) (vecC zb6 l),.cells true 23 (T.int .i64 (gx rb2.1 0) :: (rb3.1.l.map (T.int .i64)++(rb4.1.l.map (T.int .i64)++[T.int .i64 (gx rb2.1 1),T.arr 3 1 0 (n2+1) (n2+1) (n2+1)]))),.cells false (n2+1) ((l2++[s_7.2.2.1]).map lAlt),.gone] (fun h=>h 4=.ptr 0 0 2∧h 5=.arr 1 23 0 n n (n*23)∧h 6=.int .i64 rb.1∧h 7=.int .i64 k_∧h 9=.ptr 2 0 23∧h 10=.int .i64 rb5.1∧h 11=.int .i64 i) (f3 hh c3 (f3 c11 (el42 ax) (sr42 ax))) trivial ?_;clear hh h;intro h hh;cases H4;exact ce hh ⟨kq hh,rfl⟩
    clear hh h;rintro h bs ⟨hh,rfl⟩;repeat apply TW.seq
    refine rk [4,5,6,7,9,10,11] [] (f3 hh c3 c11) ?_;clear hh h;intro h hh;exact rd m hh ⟨(IntKind.i64.wrap (i+1)),s_6.1,s_6.2.1,s_6.2.2,(n2+1),H3,kq hh,rfl⟩
   clear hh h;rintro h bs ⟨hh,rfl⟩;obtain ⟨g21,H2⟩:=isg H2;repeat apply TW.seq
   refine fz (e:=1) (len:=s_4.2.2.2) (M:=s_4.2.2.2) (l:=(s_4.2.2.1.map lAlt)) 2 3 22 (s_4.2.2.1.map lAlt) (by rw [List.drop_zero,Nat.mul_one,zbv (fun _=>rfl),List.take_of_length_le (by rw [List.length_map];omega)]) (fun t ht=>by obtain ⟨x,_,rfl⟩:=List.mem_map.1 ht;first|rfl|exact zd2 _|exact zci _|exact zbz _|exact zbe _ | (rw [List.length_map];rfl)) (by rw [List.length_map];exact g21) ?_;obtain ⟨g22,H2⟩:=isg H2;repeat apply TW.seq
   refine rg [] [] [.cells true 2 [byts s_4.1,.int .i64 s_4.2.1],.cells false ((n+1)*23) (vecC zb6 (l++[(⟨gx rb2.1 0,(⟨rb3.1,rb4.1⟩:Pat),gx rb2.1 1,s_4.2.2.1⟩:Rule)])),.cells true 23 (T.int .i64 (gx rb2.1 0) :: (rb3.1.l.map (T.int .i64)++(rb4.1.l.map (T.int .i64)++[T.int .i64 (gx rb2.1 1),zaj s_4.2.2.1]))),.gone] (fun h=>h 4=.ptr 0 0 2∧h 5=.arr 1 23 0 (n+1) (n+1) ((n+1)*23)∧h 6=.int .i64 rb.1∧h 7=.int .i64 k_) (f3 hh c3 (f3 ((show vecC zb6 [(⟨gx rb2.1 0,(⟨rb3.1,rb4.1⟩:Pat),gx rb2.1 1,s_4.2.2.1⟩:Rule)]=(T.int .i64 ((⟨gx rb2.1 0,(⟨rb3.1,rb4.1⟩:Pat),gx rb2.1 1,s_4.2.2.1⟩:Rule).prio) :: ((((⟨gx rb2.1 0,(⟨rb3.1,rb4.1⟩:Pat),gx rb2.1 1,s_4.2.2.1⟩:Rule).mat).mask).l.map (T.int .i64)++((((⟨gx rb2.1 0,(⟨rb3.1,rb4.1⟩:Pat),gx rb2.1 1,s_4.2.2.1⟩:Rule).mat).bits).l.map (T.int .i64)++[T.int .i64 ((⟨gx rb2.1 0,(⟨rb3.1,rb4.1⟩:Pat),gx rb2.1 1,s_4.2.2.1⟩:Rule).step),zaj ((⟨gx rb2.1 0,(⟨rb3.1,rb4.1⟩:Pat),gx rb2.1 1,s_4.2.2.1⟩:Rule).outs)]))) from zpd.trans rfl)) (el28 ax) (sr28 ax))) trivial ?_;clear hh h;intro h hh;cases H2;exact ce hh ⟨kq hh,rfl⟩
  clear hh h;rintro h bs ⟨hh,rfl⟩;repeat apply TW.seq
  refine rk [4,5,6,7] [] (f2 hh c3) ?_;clear hh h;intro h hh;exact rd m hh ⟨(IntKind.i64.wrap (k_+1)),s_3.1,s_3.2.1,s_3.2.2,(n+1),H1,kq hh,rfl⟩
 clear hh h;rintro h bs ⟨hh,rfl⟩;obtain ⟨s_9,H1,H⟩:=zad H;repeat apply TW.seq
 refine cu [4,5,115] 2 (fun h bs=>(h 4=.ptr 0 0 2∧h 5=.arr 1 23 0 s_.2.2.2 s_.2.2.2 (s_.2.2.2*23)∧h 115=.bool s_9)∧bs=[.cells true 2 [byts s_.1,.int .i64 s_.2.1],.cells false (s_.2.2.2*23) (vecC zb6 s_.2.2.1)]) ?_ ?_
 ·skip;rcases isp H1 with ⟨c23,H1⟩|⟨c23,H1⟩;rotate_left
  ·skip;repeat apply TW.seq
   refine rk [4,5,115] [] (f2 hh (decide_eq_false c23)) ?_;clear hh h;intro h hh;cases H1;exact ce hh ⟨kq hh,rfl⟩
  repeat apply TW.seq
  refine rk [4,5,115] [] (f2 hh (decide_eq_true c23)) ?_;clear hh h;intro h hh;cases H1;exact ce hh ⟨kq hh,rfl⟩
 clear hh h;rintro h bs ⟨hh,rfl⟩;obtain ⟨s_10,H1,H⟩:=zad H;repeat apply TW.seq
 refine cu [4,5] 2 (fun h bs=>(h 4=.ptr 0 0 2∧h 5=.arr 1 23 0 s_.2.2.2 s_.2.2.2 (s_.2.2.2*23))∧bs=[.cells true 2 [byts s_.1,.int .i64 s_10],.cells false (s_.2.2.2*23) (vecC zb6 s_.2.2.1)]) ?_ ?_
 ·skip;rcases isb H1 with ⟨c24,H1⟩|⟨c24,H1⟩;rotate_left
  ·skip;repeat apply TW.seq
   refine cf (f2 hh c24) ?_;repeat apply TW.seq
   refine sk ?_;cases H1;exact ce hh ⟨kq hh,rfl⟩
  repeat apply TW.seq
  refine ct (f2 hh c24) ?_;obtain ⟨rb10,e25,H1⟩:=zad H1;repeat apply TW.seq
  refine rkc [4,5] [] [(.tup [],stL [.cells true 2 [byts s_.1,.int .i64 rb10],.cells false (s_.2.2.2*23) (vecC zb6 s_.2.2.1)])] (f2 hh c24) ?_ ?_
  ·exact ⟨ca [0] (zbt ax hx k 6 s_.1 s_.2.1 rb10 e25),trivial⟩
  clear hh h;intro h hh;cases H1;exact ce hh ⟨kq hh,rfl⟩
 clear hh h;rintro h bs ⟨hh,rfl⟩;repeat apply TW.seq
 refine rk [4,5,122] [] hh ?_;clear hh h;intro h hh;rcases isp H with ⟨c26,H⟩|⟨c26,H⟩;rotate_left
 ·skip;repeat apply TW.seq
  refine cf (f2 hh (decide_eq_false c26)) ?_;repeat apply TW.seq
  refine sk ?_;repeat apply TW.seq
  refine rk [2,3] [] hh ?_;clear hh h;intro h hh;obtain ⟨g27,H⟩:=isg H;refine TW.freeze 2 (b:=1) (e:=23) (off:=0) (len:=s_.2.2.2) (cap:=s_.2.2.2) (M:=(s_.2.2.2*23)) (s_.2.2.1.map zb6) (kq hh) (by rfl) (by omega) (by omega) (by rw [List.drop_zero];exact zml (fun x=>zbe x) g27) (fun t ht=>by obtain ⟨x,_,rfl⟩:=List.mem_map.1 ht;first|rfl|exact zd2 _|exact zci _|exact zbz _|exact zbe _ | (rw [List.length_map];rfl)) (by rw [List.length_map];exact g27) (by omega) ?_;rw [zeb _ _ _ (by simp only [lzA]<;>omega)];simp only [scA];refine gk [2,3] hh ?_;clear hh h;intro h hh;cases H;exact rt hh
 repeat apply TW.seq
 refine ct (f2 hh (decide_eq_true c26)) ?_;repeat apply TW.seq
 refine dk 0 [2,3] [] [] [] hh trivial trivial ?_;clear hh h;intro h hh;refine nk 2 23 [2,3] hh ?_;clear hh h;intro h hh;cases H;exact rt hh
def zhk (k:Nat) (a:List Int) (b:List Int):Option Bool:=some (decide ((strL a)=(strL b)))
set_option maxHeartbeats 8000000 in
theorem zf4 (ax:Axs) (hx:zb7 ax) (k:Nat) (a:List Int) (b:List Int) (v:Bool) (H:zhk k a b=some v):Pure Tryz.prog (EE ax) [] 43 [byts a,byts b] (.bool v):=by
 rw [zhk] at H;refine en [.tmp 4] 10 [0,1] (hx.no _ (by decide)) (fn43 ax) ?_;intro h hh;repeat apply TW.seq
 refine rk [0,1] [] hh ?_;clear hh h;intro h hh;repeat apply TW.seq
 refine rk [4] [] (f3 hh (@tStr.eq_1) (f2 (isu8 ax) (@tSrc.eq_1))) ?_;clear hh h;intro h hh;cases H;exact rt hh
end
section
namespace WM
def zig (n:Int):Nat:=if n<0 then (-1 - n).toNat*2+1 else n.toNat*2
def zag (z:Nat):Int:=if z % 2=1 then -1 - ((z / 2:Nat):Int) else ((z / 2:Nat):Int)
theorem ygl (n:Int):zag (zig n)=n:=by unfold zag zig;split<;>split<;>omega
theorem z5z (z:Nat):zig (zag z)=z:=by unfold zag zig;split<;>split<;>omega
theorem z1e {n:Int} (h1:-9223372036854775808≤n) (h2:n≤9223372036854775807):zig n<18446744073709551616:=by unfold zig;split<;>omega
theorem z52 {z:Nat} (h:z<18446744073709551616):-9223372036854775808≤zag z∧zag z≤9223372036854775807:=by unfold zag;split<;>omega
def venc (z:Nat):List UInt8:=if h:z<128 then [UInt8.ofNat z] else UInt8.ofNat (z % 128+128) :: venc (z / 128)
  termination_by z
  decreasing_by omega
theorem zke {z:Nat} (h:z<128):venc z=[UInt8.ofNat z]:=by rw [venc];simp [h]
theorem znr {z:Nat} (h:¬ z<128):venc z=UInt8.ofNat (z % 128+128) :: venc (z / 128):=by rw [venc];simp [h]
def enc (n:Int):List UInt8:=venc (zig n)
theorem ybc (k:Nat):∀ z,z<128 ^ (k+1)→(venc z).length≤k+1:=by
  induction k with
  |zero=>intro z h;rw [zke (by simpa using h)];simp
  |succ k ih =>
    intro z h;by_cases hz:z<128
    · rw [zke hz];simp
    · rw [znr hz]
      have:z / 128<128 ^ (k+1):=by
        rw [Nat.div_lt_iff_lt_mul (by decide)];rw [Nat.pow_succ] at h;omega
      have:=ih _ this;simp;omega
theorem z4t {z:Nat} (h:z<18446744073709551616):(venc z).length≤10:=ybc 9 z (by omega)
theorem zpc (z:Nat):0<(venc z).length:=by
  by_cases hz:z<128
  · rw [zke hz];simp
  · rw [znr hz];simp
theorem z0y {n:Int} (h1:-9223372036854775808≤n) (h2:n≤9223372036854775807):(enc n).length≤10:=z4t (z1e h1 h2)
def decF:Nat→Nat→List UInt8→Except Int (Nat×Nat)
  |_,_,[]=>.error 5
  |k,z,c :: r =>
    if (k=9∧1<c.toNat)∨(0<k∧c.toNat=0) then .error 6
    else if c.toNat<128 then .ok (z+c.toNat*128 ^ k,k+1)
    else decF (k+1) (z+c.toNat % 128*128 ^ k) r
def dec (l:List UInt8):Except Int (Int×Nat):=match decF 0 0 l with
  |.ok (z,u)=>.ok (zag z,u)
  |.error e=>.error e
theorem zdu {a:Nat} (h:a<256):(UInt8.ofNat a).toNat=a:=by
  rw [UInt8.toNat_ofNat'];exact Nat.mod_eq_of_lt h
theorem z96 (t:List UInt8):∀ (m z k s:Nat),m=9 - k→k≤9→z<2*128 ^ m→(0<k→0<z)→decF k s (venc z++t)=.ok (s+z*128 ^ k,k+(venc z).length):=by
  intro m
  induction m with
  |zero =>
    intro z k s hm hk hz h0;obtain rfl:k=9:=by omega
    have hz2:z<2:=by simpa using hz
    have h0:=h0 (by omega);rw [zke (by omega)];simp only [List.cons_append,List.nil_append,decF,zdu (show z<256 by omega)];rw [if_neg (by omega),if_pos (by omega)]
    simp
  |succ m ih =>
    intro z k s hm hk hz h0;by_cases hlt:z<128
    · rw [zke hlt];simp only [List.cons_append,List.nil_append,decF,zdu (show z<256 by omega)];rw [if_neg (by omega),if_pos (by omega)];simp
    · rw [znr hlt];have e1:(UInt8.ofNat (z % 128+128)).toNat=z % 128+128:=zdu (by omega);simp only [List.cons_append,decF,e1];rw [if_neg (by omega),if_neg (by omega)]
      have hd:z / 128<2*128 ^ m:=by
        rw [Nat.div_lt_iff_lt_mul (by decide)];rw [Nat.pow_succ] at hz;omega
      rw [ih (z / 128) (k+1) _ (by omega) (by omega) hd (by omega)];have e2:(z % 128+128) % 128=z % 128:=by omega
      rw [e2];simp only [List.length_cons,Except.ok.injEq,Prod.mk.injEq];refine ⟨?_,by omega⟩;rw [Nat.pow_succ,Nat.add_assoc,← Nat.mul_assoc,Nat.mul_right_comm,← Nat.add_mul];congr 2;have:=Nat.div_add_mod z 128;omega
theorem zv8 {n:Int} (h1:-9223372036854775808≤n) (h2:n≤9223372036854775807) (t:List UInt8):dec (enc n++t)=.ok (n,(enc n).length):=by
  unfold dec enc;rw [z96 t 9 (zig n) 0 0 rfl (by omega) (by have:=z1e h1 h2;omega) (by omega)];simp [ygl]
theorem z5l:∀ (l:List UInt8) (k s z u:Nat),k≤9→decF k s l=.ok (z,u)→∃ y,z=s+y*128 ^ k∧y<2*128 ^ (9 - k)∧(0<k→0<y)∧u=k+(venc y).length∧l.take (venc y).length=venc y:=by
  intro l
  induction l with
  |nil=>intro k s z u hk h;simp [decF] at h
  |cons c r ih =>
    intro k s z u hk h;have hc:=c.toNat_lt;simp only [decF] at h;split at h
    · cases h
    · rename_i hn;split at h
      · rename_i hlt;simp only [Except.ok.injEq,Prod.mk.injEq] at h;obtain ⟨rfl,rfl⟩:=h;refine ⟨c.toNat,rfl,?_,by omega,by rw [zke hlt];simp,by rw [zke hlt];simp⟩;by_cases h9:k=9
        · subst h9;simp;omega
        · have:128 ^ 1≤128 ^ (9 - k):=Nat.pow_le_pow_right (by decide) (by omega);omega
      · rename_i hlt;by_cases h9:k=9
        · omega
        · obtain ⟨y,hz,hy,hy0,hu,ht⟩:=ih (k+1) _ z u (by omega) h;have hy0:=hy0 (by omega);have hb:¬ (c.toNat % 128+128*y)<128:=by omega
          have e1:(c.toNat % 128+128*y) % 128+128=c.toNat:=by omega
          have e2:(c.toNat % 128+128*y) / 128=y:=by omega
          have e3:venc (c.toNat % 128+128*y)=c :: venc y:=by
            rw [znr hb,e1,e2];simp
          refine ⟨c.toNat % 128+128*y,?_,?_,by omega,by rw [e3];simp;omega,by rw [e3];simpa using ht⟩
          · rw [hz,Nat.pow_succ,Nat.add_mul,Nat.add_assoc];congr 2;rw [Nat.mul_comm 128 y,Nat.mul_assoc,Nat.mul_comm (128 ^ k) 128]
          · have:9 - k=(9 - (k+1))+1:=by omega
            rw [this,Nat.pow_succ];omega
theorem zgq {l:List UInt8} {n:Int} {u:Nat} (h:dec l=.ok (n,u)):l.take u=enc n∧u=(enc n).length∧u≤l.length∧0<u∧-9223372036854775808≤n∧n≤9223372036854775807:=by
  unfold dec at h;split at h
  · rename_i z u' hd;simp only [Except.ok.injEq,Prod.mk.injEq] at h;obtain ⟨rfl,rfl⟩:=h;obtain ⟨y,hz,hy,_,hu,ht⟩:=z5l l 0 0 z u' (by omega) hd;obtain rfl:z=y:=by omega
    simp only [Nat.zero_add] at hu;have hr:=z52 (z:=z) (by omega);refine ⟨?_,?_,?_,by rw [hu];exact zpc _,hr.1,hr.2⟩
    · unfold enc;rw [z5z,hu];exact ht
    · unfold enc;rw [z5z];exact hu
    · have:=congrArg List.length ht;rw [List.length_take] at this;omega
  · cases h
theorem ycr:∀ (l:List UInt8) (k s:Nat) (e:Int),decF k s l=.error e→e=5∨e=6:=by
  intro l
  induction l with
  |nil=>intro k s e h;simp [decF] at h;omega
  |cons c r ih =>
    intro k s e h;simp only [decF] at h;split at h
    · simp at h;omega
    · split at h
      · cases h
      · exact ih _ _ _ h
theorem zoa {l:List UInt8} {e:Int} (h:dec l=.error e):e=5∨e=6:=by
  unfold dec at h;split at h
  · cases h
  · rename_i e' hd;simp at h;subst h;exact ycr _ _ _ _ hd
/-! ### lengths, strings, lists -/
def lenD (l:List UInt8) (least:Nat):Except Int (Nat×Nat):=match dec l with
  |.error e=>.error e
  |.ok (n,u)=>if n<0 then .error 6 else if (l.length - u) / least<n.toNat then .error 5 else .ok (n.toNat,u)
theorem zvo {l:List UInt8} {a:Nat} {e:Int} (h:lenD l a=.error e):e=5∨e=6:=by
  unfold lenD at h;split at h
  · rename_i hd;simp at h;subst h;exact zoa hd
  · split at h
    · simp at h;omega
    · split at h
      · simp at h;omega
      · cases h
theorem z0k {l:List UInt8} {a n u:Nat} (h:lenD l a=.ok (n,u)):dec l=.ok ((n:Int),u)∧n≤(l.length - u) / a∧u≤l.length∧l.take u=enc n∧u=(enc n).length∧0<u∧(n:Int)≤9223372036854775807:=by
  unfold lenD at h;split at h
  · cases h
  · rename_i n' u' hd;split at h
    · cases h
    · split at h
      · cases h
      · simp only [Except.ok.injEq,Prod.mk.injEq] at h;obtain ⟨rfl,rfl⟩:=h;have hc:=zgq hd;have e:((n'.toNat:Nat):Int)=n':=by omega
        rw [e];exact ⟨hd,by omega,hc.2.2.1,hc.1,hc.2.1,hc.2.2.2.1,hc.2.2.2.2.2⟩
def many {α:Type} (one:List UInt8→Except Int (α×Nat)):Nat→List UInt8→Except Int (List α×Nat)
  |0,_=>.ok ([],0)
  |n+1,l=>match one l with
    |.error e=>.error e
    |.ok (x,u)=>match many one n (l.drop u) with
      |.error e=>.error e
      |.ok (xs,v)=>.ok (x :: xs,u+v)
def getL {α:Type} (one:List UInt8→Except Int (α×Nat)) (least:Nat) (l:List UInt8):Except Int (List α×Nat):=match lenD l least with
  |.error e=>.error e
  |.ok (n,u)=>match many one n (l.drop u) with
    |.error e=>.error e
    |.ok (xs,v)=>.ok (xs,u+v)
def encL {α:Type} (one:α→List UInt8) (xs:List α):List UInt8:=enc xs.length++xs.flatMap one
structure Good {α:Type} (one:List UInt8→Except Int (α×Nat)) (en:α→List UInt8) (P:α→Prop) (least:Nat):Prop where
  round:∀ x t,P x→one (en x++t)=.ok (x,(en x).length)
  long:∀ x,P x→least≤(en x).length
theorem ztn {α:Type} {one:List UInt8→Except Int (α×Nat)} {en:α→List UInt8} {P:α→Prop} {least:Nat} (g:Good one en P least) (t:List UInt8) :
    ∀ xs:List α,(∀ x∈xs,P x)→many one xs.length (xs.flatMap en++t)=.ok (xs,(xs.flatMap en).length):=by
  intro xs
  induction xs with
  |nil=>intro _;simp [many]
  |cons x xs ih =>
    intro h;simp only [List.length_cons,List.flatMap_cons,many,List.append_assoc];rw [g.round x _ (h x (by simp))];simp only;rw [List.drop_left,ih (fun y hy=>h y (by simp [hy]))];simp
theorem zyq {α:Type} {one:List UInt8→Except Int (α×Nat)} {en:α→List UInt8} {P:α→Prop} {least:Nat} (g:Good one en P least) :
    ∀ xs:List α,(∀ x∈xs,P x)→xs.length*least≤(xs.flatMap en).length:=by
  intro xs
  induction xs with
  |nil=>intro _;simp
  |cons x xs ih =>
    intro h;have:=ih (fun y hy=>h y (by simp [hy]));have h1:=g.long x (h x (by simp));simp only [List.length_cons,List.flatMap_cons,List.length_append];rw [Nat.add_mul];omega
theorem yb8 {n:Nat} (hn:(n:Int)≤9223372036854775807) (t:List UInt8) (a:Nat) (ha:0<a) (h:n*a≤t.length):lenD (enc n++t) a=.ok (n,(enc n).length):=by
  unfold lenD;rw [zv8 (by omega) hn];simp only;rw [if_neg (by omega),if_neg]
  · simp
  · rw [List.length_append,Nat.add_sub_cancel_left,Int.toNat_natCast,Nat.not_lt];exact (Nat.le_div_iff_mul_le ha).2 h
theorem z5f {α:Type} {one:List UInt8→Except Int (α×Nat)} {en:α→List UInt8} {P:α→Prop} {least:Nat} (g:Good one en P least) (ha:0<least) (t:List UInt8)
    (xs:List α) (h:∀ x∈xs,P x) (hn:(xs.length:Int)≤9223372036854775807):getL one least (encL en xs++t)=.ok (xs,(encL en xs).length):=by
  unfold getL encL;rw [List.append_assoc,yb8 hn _ _ ha (by have:=zyq g xs h;rw [List.length_append];omega)];simp only;rw [List.drop_left,ztn g t xs h];simp
theorem ycj:Good dec enc (fun n=>-9223372036854775808≤n∧n≤9223372036854775807) 1 :=
  ⟨fun _ t h=>zv8 h.1 h.2 t,fun _ _=>zpc _⟩
/-! ### what is decoded is the encoding -/
def yie {α:Type} (one:List UInt8→Except Int (α×Nat)) (en:α→List UInt8):Prop:=∀ l x u,one l=.ok (x,u)→l.take u=en x∧u≤l.length
theorem zzb:yie dec enc:=fun _ _ _ h=>⟨(zgq h).1,(zgq h).2.2.1⟩
theorem z49 {α:Type} {one:List UInt8→Except Int (α×Nat)} {en:α→List UInt8} (c:yie one en) :
    ∀ (n:Nat) (l:List UInt8) (xs:List α) (v:Nat),many one n l=.ok (xs,v)→l.take v=xs.flatMap en∧v≤l.length∧xs.length=n:=by
  intro n
  induction n with
  |zero =>
    intro l xs v h;simp only [many,Except.ok.injEq,Prod.mk.injEq] at h;obtain ⟨rfl,rfl⟩:=h
    simp
  |succ n ih =>
    intro l xs v h;rw [many] at h
    cases h1:one l with
    |error e=>rw [h1] at h;simp at h
    |ok p =>
      obtain ⟨x,u⟩:=p;rw [h1] at h;simp only at h
      cases h2:many one n (l.drop u) with
      |error e=>rw [h2] at h;simp at h
      |ok q =>
        obtain ⟨ys,v'⟩:=q;rw [h2] at h;simp only [Except.ok.injEq,Prod.mk.injEq] at h;obtain ⟨rfl,rfl⟩:=h;obtain ⟨a1,a2⟩:=c _ _ _ h1;obtain ⟨b1,b2,b3⟩:=ih _ _ _ h2;simp only [List.length_drop] at b2;refine ⟨?_,by omega,by simp [b3]⟩;rw [List.take_add,a1,b1];simp
theorem zt6 {α:Type} {one:List UInt8→Except Int (α×Nat)} {en:α→List UInt8} (c:yie one en) {a:Nat} {l:List UInt8} {xs:List α} {u:Nat} (h:getL one a l=.ok (xs,u)) :
    l.take u=encL en xs∧u≤l.length:=by
  unfold getL at h;split at h
  · cases h
  · rename_i n u' hd;obtain ⟨_,_,h3,h4,_,_⟩:=z0k hd;split at h
    · cases h
    · rename_i ys v hm;simp only [Except.ok.injEq,Prod.mk.injEq] at h;obtain ⟨rfl,rfl⟩:=h;obtain ⟨b1,b2,b3⟩:=z49 c _ _ _ _ hm;simp only [List.length_drop] at b2;unfold encL;rw [b3,← h4,← b1,List.take_add];exact ⟨rfl,by omega⟩
end WM
end
section
open Go Go.RowKit WM
theorem zz9 (a:Nat) (ha:a<18446744073709551616):bits .xor .u64 (a:Int) 0=a:=by
  have:=bits_xor_u64_nat a 0 ha (by decide);simpa using this
theorem z0a (b:Nat) (hb:b<2 ^ 64):b ^^^ (2 ^ 64 - 1)=2 ^ 64 - 1 - b:=by
  apply Nat.eq_of_testBit_eq;intro i;rw [Nat.testBit_xor,Nat.testBit_two_pow_sub_one,show 2 ^ 64 - 1 - b=2 ^ 64 - (b+1) by omega,Nat.testBit_two_pow_sub_succ hb];by_cases hi:i<64
  · simp [hi]
  · have:b.testBit i=false:=Nat.testBit_lt_two_pow (Nat.lt_of_lt_of_le hb (Nat.pow_le_pow_right (by decide) (by omega)));simp [hi,this]
theorem z7q (n:Int) (h1:-9223372036854775808≤n) (h2:n≤9223372036854775807) :
    bits BinOp.xor IntKind.u64 (IntKind.u64.wrap (IntKind.u64.wrap n*2)) (IntKind.u64.wrap (n / 9223372036854775808))=(zig n:Int):=by
  unfold zig;by_cases hn:n<0
  · rw [if_pos hn]
    have e1:IntKind.u64.wrap (IntKind.u64.wrap n*2)=(((2*n+18446744073709551616).toNat:Nat):Int):=by
      rw [IntKind.wrap_u64,IntKind.wrap_u64];omega
    have e2:IntKind.u64.wrap (n / 9223372036854775808)=((2 ^ 64 - 1:Nat):Int):=by
      rw [show n / 9223372036854775808=-1 by omega];decide
    rw [e1,e2,bits_xor_u64_nat _ _ (by omega) (by decide),z0a _ (by omega)];omega
  · rw [if_neg hn]
    have e1:IntKind.u64.wrap (IntKind.u64.wrap n*2)=((n.toNat*2:Nat):Int):=by
      rw [IntKind.wrap_u64,IntKind.wrap_u64];omega
    have e2:IntKind.u64.wrap (n / 9223372036854775808)=0:=by
      rw [show n / 9223372036854775808=0 by omega];decide
    rw [e1,e2,zz9 _ (by omega)]
theorem yi7 (x:Nat):bits .or .u8 ((x:Int) % 256) 128=(((UInt8.ofNat (x % 128+128)).toNat:Nat):Int):=by
  rw [show ((x:Int) % 256)=((x % 256:Nat):Int) by omega,show (128:Int)=((128:Nat):Int) by rfl,u8_or_nat _ _ (by omega) (by decide)];rw [zdu (by omega)];congr 1;by_cases h:x % 256<128
  · rw [Nat.or_comm,nat_join 7 128 (x % 256) (by decide) (by omega)];omega
  · have e:x % 256=128+(x % 256 - 128):=by omega
    have e2:128 ||| (x % 256 - 128)=x % 256:=by rw [nat_join 7 128 _ (by decide) (by omega)];omega
    rw [← e2,Nat.or_comm,← Nat.or_assoc,Nat.or_self,nat_join 7 128 _ (by decide) (by omega)];omega
theorem pzig (n:Int) (h1:-9223372036854775808≤n) (h2:n≤9223372036854775807) :
    IntKind.u64.wrap (BitVec.ofInt IntKind.u64.bits (IntKind.u64.wrap (IntKind.u64.wrap n*2 ^ (min (1:Int).toNat IntKind.u64.bits))) ^^^ BitVec.ofInt IntKind.u64.bits (IntKind.u64.wrap (n.fdiv (2 ^ (min (63:Int).toNat IntKind.i64.bits))))).toNat=(zig n:Int):=by
  have h:=z7q n h1 h2;rw [← h];have e1:(2:Int) ^ (min (1:Int).toNat IntKind.u64.bits)=2:=by decide
  have e2:(2:Int) ^ (min (63:Int).toNat IntKind.i64.bits)=9223372036854775808:=by decide
  rw [e1,e2,Int.fdiv_eq_ediv_of_nonneg _ (by decide)];rfl
theorem por (x:Nat):Value.int .u8 (IntKind.u8.wrap (BitVec.ofInt IntKind.u8.bits (IntKind.u8.wrap (x:Int)) ||| BitVec.ofInt IntKind.u8.bits 128).toNat)=vb (UInt8.ofNat (x % 128+128)):=by
  have h:=yi7 x;unfold vb;rw [← h];rw [show IntKind.u8.wrap (x:Int)=(x:Int) % 256 by rw [IntKind.wrap_u8]];rfl
theorem pshr (x:Nat):Int.fdiv (x:Int) (2 ^ (min (7:Int).toNat IntKind.u64.bits))=((x / 128:Nat):Int):=by
  have e2:(2:Int) ^ (min (7:Int).toNat IntKind.u64.bits)=128:=by decide
  rw [e2,Int.fdiv_eq_ediv_of_nonneg _ (by decide)];omega
end
section
open Go Go.RowKit WM
set_option maxRecDepth 100000
theorem wi {x:Int} (h:-9223372036854775808≤x∧x≤9223372036854775807):IntKind.i64.wrap x=x:=wr64 h
def tn (c:UInt8):Int:=(c.toNat:Int)
def bvi (l:List UInt8):List Int:=l.map tn
theorem zd3 (l:List UInt8):(bvi l).length=l.length:=List.length_map ..
theorem ycg {l:List UInt8} {i:Nat} (h:i<l.length):gx (bvi l) (i:Int)=(l[i].toNat:Int):=by
  show (bvi l).getD i default=_;unfold bvi;rw [List.getD_eq_getElem?_getD,List.getElem?_map,List.getElem?_eq_getElem h];rfl
theorem wu {x:Int} (h:0≤x∧x≤18446744073709551615):IntKind.u64.wrap x=x:=yhm h
theorem w8 {x:Int} (h:0≤x∧x≤255):IntKind.u8.wrap x=x:=yjq h
theorem hiB (z:Nat):iOr .u8 (IntKind.u8.wrap (z:Int)) 128=((UInt8.ofNat (z % 128+128)).toNat:Int):=by
  have h:=por z;unfold vb at h;exact (Value.int.inj h).2
theorem hiR (z:Nat):IntKind.u8.wrap (IntKind.u8.wrap ((z:Int) % 128)+128)=((UInt8.ofNat (z % 128+128)).toNat:Int):=by
  rw [w8 (x:=(z:Int) % 128) (by omega),w8 (by omega),zdu (by omega)];omega
theorem z8z (k:Nat):∀ (m z:Nat) (l:List Int) (c:Nat),(venc z).length≤m→z<18446744073709551616→c+(venc z).length≤2000→l.length=c→∃ (z':Nat) (l':List Int) (c':Nat),zcz k m (z:Int) l c=some ((z':Int),l',c')∧zdx k m (z:Int) l c=some ((z':Int),l',c')∧z'<128∧l'++[(z':Int)]=l++bvi (venc z)∧c'≤2000∧l'.length=c'
  |0,z,l,c,h1,h2,h3,h4=>absurd (zpc z) (by omega)
  |m+1,z,l,c,h1,h2,h3,h4=>by
    by_cases hz:z<128
    · refine ⟨z,l,c,?_,?_,hz,?_,by omega,h4⟩
      · rw [zcz,if_neg (by omega)]
      · rw [zdx,if_neg (by omega)]
      · rw [zke hz];show _=l++[((UInt8.ofNat z).toNat:Int)];rw [zdu (by omega)]
    · rw [znr hz,List.length_cons] at h1 h3;obtain ⟨z',l',c',e1,e2,e3,e4,e5,e6⟩:=z8z k m (z / 128) (l++[((UInt8.ofNat (z % 128+128)).toNat:Int)]) (c+1) (by omega) (by omega) (by omega) (by rw [List.length_append,h4];rfl);refine ⟨z',l',c',?_,?_,e3,?_,e5,e6⟩
      · rw [zcz,if_pos (by omega),if_pos (by omega),if_pos (by omega),hiB,show iShr .u64 (z:Int) 7=((z / 128:Nat):Int) from pshr z,e1]
      · rw [zdx,if_pos (by omega),if_pos (by omega),if_pos (by omega),hiR,wu (by omega),show (z:Int) / 128=((z / 128:Nat):Int) by omega,e2]
      · rw [e4,znr hz,List.append_assoc];rfl
theorem rzig (n:Int) (h1:-9223372036854775808≤n) (h2:n≤9223372036854775807):(if n<0 then some (IntKind.u64.wrap ((IntKind.u64.wrap ((IntKind.u64.wrap (IntKind.i64.wrap ((-1) - n)))*2))+1)) else some (IntKind.u64.wrap ((IntKind.u64.wrap (n))*2)):Option Int)=some ((zig n:Nat):Int):=by
  unfold zig;by_cases h:n<0
  · rw [if_pos h,if_pos h,wi (by omega),wu (x:=-1 - n) (by omega),wu (x:=(-1 - n)*2) (by omega),wu (by omega)];congr 1;omega
  · rw [if_neg h,if_neg h,wu (x:=n) (by omega),wu (by omega)];congr 1;omega
def encI (n:Int):List Int:=bvi (enc n)
theorem zhf {n:Int} (h1:-9223372036854775808≤n) (h2:n≤9223372036854775807):(encI n).length≤10:=by
  unfold encI;rw [zd3];exact z0y h1 h2
theorem ycn (n:Int):0<(encI n).length:=by
  unfold encI;rw [zd3];exact zpc _
theorem ycf (k:Nat) (n:Int) (h1:-9223372036854775808≤n) (h2:n≤9223372036854775807):zc5 (k+20) n=some (encI n)∧zhd (k+20) n=some (encI n):=by
  have hl:=z0y h1 h2;obtain ⟨z',l',c',e1,e2,e3,e4,e5,e6⟩:=z8z (k+20) (k+20) (zig n) [] 0 (by unfold enc at hl;omega) (z1e h1 h2) (by unfold enc at hl;omega) rfl;rw [List.nil_append] at e4;constructor
  · unfold zc5;rw [if_pos (by omega),if_pos (by omega),show iXor .u64 (iShl .u64 (IntKind.u64.wrap n) 1) (IntKind.u64.wrap (iShr .i64 n 63))=(zig n:Int) from pzig n h1 h2,e1];simp only [Option.bind_some];rw [if_pos (by omega),w8 (by omega),if_pos (by rw [List.length_append,e6];rfl),e4];rfl
  · unfold zhd;rw [rzig n h1 h2];simp only [Option.bind_some];rw [e2];simp only [Option.bind_some];rw [if_pos (by omega),w8 (by omega),if_pos (by rw [List.length_append,e6];rfl),e4];rfl
-- decoding
theorem z7t (j:Nat):(2:Nat) ^ (7*j)=128 ^ j:=by rw [Nat.pow_mul]
theorem z7s {j:Nat} (h:j≤8):128 ^ j≤72057594037927936:=Nat.le_trans (Nat.pow_le_pow_right (by decide) h) (by decide)
theorem yhe {zn j c:Nat} (hj:j≤9) (hz:zn<128 ^ j) (hc:c<256) (h9:j=9→c≤1) :
    bits BinOp.or IntKind.u64 (zn:Int) (IntKind.u64.wrap (IntKind.u64.wrap (bits BinOp.and IntKind.u8 (c:Int) 127)*2 ^ (7*j)))=((zn+c % 128*128 ^ j:Nat):Int)∧zn+c % 128*128 ^ j<18446744073709551616∧(j≤8→zn+c % 128*128 ^ j<128 ^ (j+1)):=by
  have hb:c % 128*128 ^ j≤9223372036854775808 - 72057594037927936∨j=9∧c % 128*128 ^ j≤9223372036854775808:=by
    by_cases h:j=9
    · subst h;have:=h9 rfl;refine .inr ⟨rfl,?_⟩;have:c % 128≤1:=by omega
      have:=Nat.mul_le_mul_right (128 ^ 9) this;omega
    · left;have h1:=z7s (show j≤8 by omega);have:c % 128≤127:=by omega
      have:=Nat.mul_le_mul this h1;omega
  have hp:128 ^ j≤9223372036854775808:=Nat.le_trans (Nat.pow_le_pow_right (by decide) hj) (by decide);have hlt:c % 128*128 ^ j<18446744073709551616:=by omega
  refine ⟨?_,?_,?_⟩
  · rw [u8_and127 (c:Int) (by omega) (by omega),IntKind.wrap_u64 ((c:Int) % 128),show ((c:Int) % 128) % 18446744073709551616=((c % 128:Nat):Int) by omega]
    have e:((c % 128:Nat):Int)*2 ^ (7*j)=((c % 128*128 ^ j:Nat):Int):=by
      rw [← z7t];push_cast;rfl
    rw [e,IntKind.wrap_u64,show ((c % 128*128 ^ j:Nat):Int) % 18446744073709551616=((c % 128*128 ^ j:Nat):Int) by omega,u64_or_nat _ _ (by omega) hlt];rw [Nat.or_comm,nat_join (7*j) _ _ (by rw [z7t,Nat.mul_mod_left]) (by rw [z7t];exact hz),Nat.add_comm]
  · omega
  · intro _;rw [Nat.pow_succ,Nat.mul_comm (128 ^ j) 128];have:c % 128≤127:=by omega
    have:=Nat.mul_le_mul_right (128 ^ j) this;omega
theorem ybb {z:Nat} (hz:z<18446744073709551616):bits BinOp.xor IntKind.i64 ((z:Int) / 2) (-((z:Int) % 2))=zag z:=by
  unfold zag;by_cases h:z % 2=1
  · rw [if_pos h,show -((z:Int) % 2)=-1 by omega];have:=Lib.i64_not (z / 2) (by omega)
    have hc:bits BinOp.xor IntKind.i64 ((z / 2:Nat):Int) (-1)=bits .xor .i64 (-1) ((z / 2:Nat):Int):=by
      show IntKind.i64.wrap ((BitVec.ofInt 64 _ ^^^ BitVec.ofInt 64 _).toNat:Int)=IntKind.i64.wrap ((BitVec.ofInt 64 _ ^^^ BitVec.ofInt 64 _).toNat:Int);rw [BitVec.xor_comm]
    rw [show (z:Int) / 2=((z / 2:Nat):Int) by omega,hc,this];omega
  · rw [if_neg h,show -((z:Int) % 2)=0 by omega,show (z:Int) / 2=((z / 2:Nat):Int) by omega];show IntKind.i64.wrap ((BitVec.ofInt 64 _ ^^^ BitVec.ofInt 64 0).toNat:Int)=_
    have h2:(BitVec.ofInt 64 ((z / 2:Nat):Int)).toNat=z / 2:=by
      rw [BitVec.ofInt_natCast,BitVec.toNat_ofNat];exact Nat.mod_eq_of_lt (by omega)
    have h3:BitVec.ofInt 64 0=0#64:=by decide
    rw [h3,BitVec.xor_zero,h2,IntKind.wrap_i64];omega
def zagR:Except Int (Nat×Nat)→Except Int (Int×Nat)
  |.ok (z,u)=>.ok (zag z,u)
  |.error e=>.error e
theorem yf0 {l:List UInt8} {r:Except Int (Nat×Nat)} (h:decF 0 0 l=r):dec l=zagR r:=by
  unfold dec;rw [h];rfl
def resD:Except Int (Int×Nat)→Int×Int×Int
  |.ok (n,u)=>(n,(u:Int),0)
  |.error e=>(0,0,e)
def yc4:((Int×Int×Int) ⊕ (Int×Int))→Option (Int×Int×Int):=fun o=>Sum.elim (fun r=>some r) (fun s_=>(if s_.2=0 then some (0,0,5) else (if (0:Int)≤1 then some (iXor .i64 (IntKind.i64.wrap (iShr .u64 s_.1 1)) (IntKind.i64.wrap (0 - (IntKind.i64.wrap (iAnd .u64 s_.1 1)))),s_.2,0) else none))) o
theorem z0r (k:Nat) (b:List Int):zbh k b=(zcj k b k 0 0 0).bind yc4:=rfl
theorem and1 {z:Nat} (hz:z<18446744073709551616):IntKind.u64.wrap (((BitVec.ofInt IntKind.u64.bits (z:Int) &&& BitVec.ofInt IntKind.u64.bits 1).toNat:Int))=((z % 2:Nat):Int):=by
  have h:=u64_and_nat z 1 hz (by decide);rw [Nat.and_one_is_mod] at h;exact h
theorem yc3 {z u:Nat} (hz:z<18446744073709551616) (hu:0<u):yc4 (.inr ((z:Int),(u:Int)))=some (resD (zagR (.ok (z,u)))):=by
  unfold yc4;simp only [Sum.elim_inr,iXor,iShr,iAnd];rw [if_neg (by omega),if_pos (by omega)];have e2:(2:Int) ^ (min (1:Int).toNat IntKind.u64.bits)=2:=by decide
  have h:=ybb hz;rw [e2,and1 hz,Int.fdiv_eq_ediv_of_nonneg _ (by decide),wi (x:=(z:Int) / 2) (by omega),wi (x:=((z % 2:Nat):Int)) (by omega),show (0:Int) - ((z % 2:Nat):Int)=-((z:Int) % 2) by omega,wi (x:=-((z:Int) % 2)) (by omega)];show some (bits BinOp.xor IntKind.i64 ((z:Int) / 2) (-((z:Int) % 2)),_,_)=_;rw [h];rfl
theorem condG {α:Type} (i c:Nat) (F:Bool→Option α):(((if (i:Int)=9 then some (decide (1<(c:Int))) else some false):Option Bool).bind fun s_2=>(((if s_2=true then some true else (if 0<(i:Int) then some (decide ((c:Int)=0)) else some false)):Option Bool).bind F))=F (decide ((i=9∧1<c)∨(0<i∧c=0))):=by
  by_cases h9:i=9
  · rw [if_pos (by omega)];simp only [Option.bind_some];by_cases h1:1<c
    · rw [if_pos (by rw [decide_eq_true_eq];omega),Option.bind_some,decide_eq_true (.inl ⟨h9,h1⟩)]
    · rw [if_neg (by rw [decide_eq_true_eq];omega),if_pos (by omega),Option.bind_some];congr 1;rw [decide_eq_decide];omega
  · rw [if_neg (by omega)];simp only [Option.bind_some];rw [if_neg (by simp)];by_cases h0:0<i
    · rw [if_pos (by omega),Option.bind_some];congr 1;rw [decide_eq_decide];omega
    · rw [if_neg (by omega),Option.bind_some];congr 1;symm;rw [decide_eq_false_iff_not];omega
theorem shl7 {i:Nat} (h:i≤9):min (IntKind.i64.wrap (7*(i:Int))).toNat IntKind.u64.bits=7*i:=by
  rw [wi (by omega)];show min _ 64=_;omega
theorem z56 (k:Nat) (l:List UInt8) (hl:l.length≤1000000):∀ (n i m z:Nat),i+n=9→n<m→z<128 ^ i→(zcj k (bvi l) m (z:Int) 0 (i:Int)).bind yc4=some (resD (zagR (decF i z (l.drop i))))
  |n,i,m+1,z,h1,h2,hz=>by
    rw [zcj];by_cases hi:i<l.length
    · have hc256:=l[i].toNat_lt;rw [if_pos (by rw [zd3];omega),if_pos (by rw [zd3];omega),ycg hi,condG,List.drop_eq_getElem_cons hi,decF];generalize l[i]=c at hc256 ⊢;by_cases hE:(i=9∧1<c.toNat)∨(0<i∧c.toNat=0)
      · rw [if_pos hE,if_pos (decide_eq_true hE)];rfl
      · rw [if_neg hE,if_neg (by rw [decide_eq_true_eq];exact hE),if_pos (by rw [wi (by omega)];omega)];obtain ⟨o1,o2,o3⟩:=yhe (zn:=z) (c:=c.toNat) (show i≤9 by omega) hz hc256 (by omega)
        have e:iOr .u64 (z:Int) (iShl .u64 (IntKind.u64.wrap (iAnd .u8 (c.toNat:Int) 127)) (IntKind.i64.wrap (7*(i:Int))))=((z+c.toNat % 128*128 ^ i:Nat):Int):=by
          unfold iShl;rw [shl7 (by omega)];exact o1
        rw [e,wi (by omega)];by_cases hc:c.toNat<128
        · rw [if_pos (by omega),if_pos hc,Option.bind_some,show (i:Int)+1=((i+1:Nat):Int) by omega,yc3 o2 (by omega),Nat.mod_eq_of_lt hc]
        · rw [if_neg (by omega),if_neg hc,show (i:Int)+1=((i+1:Nat):Int) by omega];have hi9:i≤8:=by omega
          match n,h1,h2 with
          |0,h1,h2=>omega
          |n+1,h1,h2=>exact z56 k l hl n (i+1) m _ (by omega) (by omega) (o3 hi9)
    · rw [if_neg (by rw [zd3];omega),List.drop_eq_nil_of_le (by omega)];rfl
theorem ygo (k:Nat) (l:List UInt8) (hl:l.length≤1000000):zbh (k+20) (bvi l)=some (resD (dec l)):=by
  rw [z0r,yf0 rfl];exact z56 (k+20) l hl 9 0 (k+20) 0 rfl (by omega) (by decide)
def low (l:List UInt8):Nat→Nat
  |0=>0
  |j+1=>low l j+(l.getD j 0).toNat % 128*128 ^ j
theorem yek (l:List UInt8):∀ j,low l j<128 ^ j:=by
  intro j
  induction j with
  |zero=>simp [low]
  |succ j ih =>
    rw [low,Nat.pow_succ,Nat.mul_comm (128 ^ j) 128];have:(l.getD j 0).toNat % 128≤127:=by omega
    have:=Nat.mul_le_mul_right (128 ^ j) this;omega
theorem yb5 {l:List UInt8} {j:Nat} (hlt:j<l.length) (h9:j≤8) (hc:128≤l[j].toNat) (h:decF 0 0 l=decF j (low l j) (l.drop j)):decF 0 0 l=decF (j+1) (low l (j+1)) (l.drop (j+1)):=by
  rw [h,List.drop_eq_getElem_cons hlt,decF,if_neg (by omega),if_neg (by omega),low];simp [hlt]
theorem z7j (k:Nat) (l:List UInt8):∀ (j m z:Nat),j≤l.length→j<m→j≤20→low l j+z*128 ^ j<18446744073709551616→zcf k (bvi l) m (z:Int) ((j:Int) - 1)=some ((low l j+z*128 ^ j:Nat):Int)
  |0,m+1,z,h1,h2,h5,h3=>by
    rw [zcf,if_neg (by omega)]
    simp [low]
  |j+1,m+1,z,h1,h2,h5,h3=>by
    have hj:j<l.length:=by omega
    have hg:(l.getD j 0).toNat=l[j].toNat:=by simp [hj]
    have e:low l j+(z*128+l[j].toNat % 128)*128 ^ j=low l (j+1)+z*128 ^ (j+1):=by
      rw [low,hg,Nat.pow_succ,Nat.add_mul,Nat.mul_comm (128 ^ j) 128,Nat.mul_assoc];omega
    have hp:1≤128 ^ j:=Nat.one_le_pow _ _ (by decide)
    have hb:z*128+l[j].toNat % 128<18446744073709551616:=by
      have:(z*128+l[j].toNat % 128)*1≤(z*128+l[j].toNat % 128)*128 ^ j:=Nat.mul_le_mul_left _ hp;omega
    have ih:=z7j k l j m (z*128+l[j].toNat % 128) (by omega) (by omega) (by omega) (by omega);rw [zcf,if_pos (by omega),if_pos (by rw [zd3];omega),show ((j+1:Nat):Int) - 1=(j:Int) by omega,ycg hj,if_pos (by omega),wu (x:=(z:Int)*128) (by omega),wu (x:=(l[j].toNat:Int) % 128) (by omega),wu (by omega),wi (by omega),show (z:Int)*128+(l[j].toNat:Int) % 128=((z*128+l[j].toNat % 128:Nat):Int) by omega,ih,e]
theorem condR (b:List Int) (i c:Nat) (hi:(0:Int)≤(i:Int)∧(i:Int)<(b.length:Int)) (hc:gx b (i:Int)=(c:Int)):(if (i:Int)=9 then (if (0:Int)≤(i:Int)∧(i:Int)<(b.length:Int) then (if 1<(gx b (i:Int)) then some true else (if 0<(i:Int) then some (decide ((gx b (i:Int))=0)) else some false)) else none) else (if 0<(i:Int) then (if (0:Int)≤(i:Int)∧(i:Int)<(b.length:Int) then some (decide ((gx b (i:Int))=0)) else none) else some false):Option Bool)=some (decide ((i=9∧1<c)∨(0<i∧c=0))):=by
  rw [if_pos hi,if_pos hi,hc];by_cases h9:i=9
  · rw [if_pos (by omega)];by_cases h1:1<c
    · rw [if_pos (by omega),decide_eq_true (.inl ⟨h9,h1⟩)]
    · rw [if_neg (by omega),if_pos (by omega)];congr 1;rw [decide_eq_decide];omega
  · rw [if_neg (by omega)];by_cases h0:0<i
    · rw [if_pos (by omega)];congr 1;rw [decide_eq_decide];omega
    · rw [if_neg (by omega)];congr 1;symm;rw [decide_eq_false_iff_not];omega
def yai (k:Nat) (b:List Int) (s_:Int):Option (Int×Int×Int):=(if s_=10 then some (0,0,6) else (if s_=(b.length:Int) then some (0,0,5) else (((if s_=9 then (if (0:Int)≤s_∧s_<(b.length:Int) then (if 1<(gx b s_) then some true else (if 0<s_ then some (decide ((gx b s_)=0)) else some false)) else none) else (if 0<s_ then (if (0:Int)≤s_∧s_<(b.length:Int) then some (decide ((gx b s_)=0)) else none) else some false)):Option Bool).bind fun s_2=>(if s_2=true then some (0,0,6) else ((zcf k b k 0 s_:Option Int).bind fun s_3=>(if (0:Int)≤s_3∧0<2 then (if (s_3 % 2)=1 then some (IntKind.i64.wrap ((-1) - (IntKind.i64.wrap (IntKind.u64.wrap (s_3 / 2)))),IntKind.i64.wrap (s_+1),0) else some (IntKind.i64.wrap (IntKind.u64.wrap (s_3 / 2)),IntKind.i64.wrap (s_+1),0)) else none))))))
theorem zxd (k:Nat) (b:List Int):zej k b=(zc0 k b k 0).bind (yai k b):=rfl
theorem z7k (k:Nat) (l:List UInt8) (hl:l.length≤1000000):∀ (n i m:Nat),i+n=10→n<m→(i≤9∧decF 0 0 l=decF i (low l i) (l.drop i)∨i=10∧decF 0 0 l=.error 6)→i≤l.length→(zc0 (k+20) (bvi l) m (i:Int)).bind (yai (k+20) (bvi l))=some (resD (zagR (decF 0 0 l)))
  |n,i,m+1,h1,h2,hd,hle=>by
    rw [zc0];have hb:=zd3 l;by_cases hi:i<l.length
    · rw [if_pos (by omega)];by_cases h10:i<10
      · have hd:=(hd.resolve_right (by omega)).2;have hc256:=l[i].toNat_lt;rw [if_pos (by omega),if_pos (by omega),ycg hi];by_cases hc:128≤l[i].toNat
        · rw [if_pos (by omega),wi (by omega),show (i:Int)+1=((i+1:Nat):Int) by omega]
          match n,h1,h2 with
          |0,h1,h2=>omega
          |n+1,h1,h2 =>
            refine z7k k l hl n (i+1) m (by omega) (by omega) ?_ (by omega);by_cases h8:i≤8
            · exact .inl ⟨by omega,yb5 hi h8 hc hd⟩
            · refine .inr ⟨by omega,?_⟩;rw [hd,List.drop_eq_getElem_cons hi,decF,if_pos (.inl ⟨by omega,by omega⟩)]
        · rw [if_neg (by omega),Option.bind_some];unfold yai;rw [if_neg (by omega),if_neg (by omega),condR (bvi l) i l[i].toNat (by omega) (ycg hi),Option.bind_some];rw [hd,List.drop_eq_getElem_cons hi,decF];by_cases hE:(i=9∧1<l[i].toNat)∨(0<i∧l[i].toNat=0)
          · rw [if_pos hE,if_pos (decide_eq_true hE)];rfl
          · rw [if_neg hE,if_neg (by rw [decide_eq_true_eq];exact hE),if_pos (by omega)]
            have hz:low l i+l[i].toNat*128 ^ i=low l (i+1):=by
              rw [low,show (l.getD i 0).toNat=l[i].toNat by simp [hi],Nat.mod_eq_of_lt (show l[i].toNat<128 by omega)]
            have h64:low l (i+1)<18446744073709551616:=by
              by_cases h9:i=9
              · subst h9;have h0:low l 9<9223372036854775808:=yek l 9;rw [← hz];have:l[9].toNat≤1:=by omega
                have:l[9].toNat*128 ^ 9≤1*128 ^ 9:=Nat.mul_le_mul_right _ this;omega
              · have h0:=yek l (i+1);have:128 ^ (i+1)≤128 ^ 9:=Nat.pow_le_pow_right (by decide) (by omega);omega
            have e:=z7j (k+20) l (i+1) (k+20) 0 (by omega) (by omega) (by omega) (by omega);rw [show ((i+1:Nat):Int) - 1=(i:Int) by omega,show ((0:Nat):Int)=0 from rfl] at e;simp only [Nat.zero_mul,Nat.add_zero] at e;rw [e,Option.bind_some,hz,if_pos (by omega)];generalize low l (i+1)=z at h64;rw [wu (by omega),wi (x:=(i:Int)+1) (by omega),wi (x:=(z:Int) / 2) (by omega)];show _=some (zag z,((i+1:Nat):Int),(0:Int));unfold zag;by_cases h:z % 2=1
            · rw [if_pos (by omega),if_pos h,wi (by omega)];rfl
            · rw [if_neg (by omega),if_neg h];rfl
      · rw [if_neg (by omega),Option.bind_some];have hd:=(hd.resolve_left (by omega)).2;unfold yai;rw [if_pos (by omega),hd];rfl
    · rw [if_neg (by omega),Option.bind_some];unfold yai;rcases hd with ⟨h9,hd⟩|⟨h9,hd⟩
      · rw [if_neg (by omega),if_pos (by omega),hd,List.drop_eq_nil_of_le (by omega)];rfl
      · rw [if_pos (by omega),hd];rfl
theorem yg6 (k:Nat) (l:List UInt8) (hl:l.length≤1000000):zej (k+20) (bvi l)=some (resD (dec l)):=by
  rw [zxd,yf0 rfl];exact z7k k l hl 10 0 (k+20) rfl (by omega) (.inl ⟨by omega,by simp [low]⟩) (by omega)
end
section
open Go Go.RowKit
set_option maxRecDepth 100000
end
section
open Go Go.RowKit
set_option maxRecDepth 100000
end
section
open Go Go.RowKit
set_option maxRecDepth 100000
end
section
open Go Go.RowKit
set_option maxRecDepth 100000
def zb2 (k:Nat) (a:Rule) (b:Rule) (k_:Int):Nat→Int→Option (Bool ⊕ Unit)
 |0,_=>none
 |m+1,i=>(if i<((gx a.outs k_).length:Int) then (if (0:Int)≤i∧i<((gx a.outs k_).length:Int) then (if (0:Int)≤i∧i<((gx b.outs k_).length:Int) then (if (gx (gx a.outs k_) i)=(gx (gx b.outs k_) i) then zb2 k a b k_ m (IntKind.i64.wrap (i+1)) else some (.inl false)) else none) else none) else some (.inr ()))
def zb3 (k:Nat) (a:Rule) (b:Rule):Nat→Int→Option (Bool ⊕ Unit)
 |0,_=>none
 |m+1,k_=>(if k_<(a.outs.length:Int) then (((if (0:Int)≤k_∧k_<(a.outs.length:Int) then (if (0:Int)≤k_∧k_<(b.outs.length:Int) then (if ((gx a.outs k_).length:Int)≠((gx b.outs k_).length:Int) then some (.inl false) else ((zb2 k a b k_ k 0:Option (Bool ⊕ Unit)).bind fun o=>Sum.elim (fun r=>some (.inl r)) (fun s_3=>some (.inr ())) o)) else none) else none):Option (Bool ⊕ Unit)).bind fun o2=>Sum.elim (fun r=>some (.inl r)) (fun s_2=>zb3 k a b m (IntKind.i64.wrap (k_+1))) o2) else some (.inr ()))
def zgh (k:Nat) (a:Rule) (b:Rule):Option Bool:=(if (a.outs.length:Int)≠(b.outs.length:Int) then some false else ((zb3 k a b k 0:Option (Bool ⊕ Unit)).bind fun o3=>Sum.elim (fun r=>some r) (fun s_=>some true) o3))
set_option maxHeartbeats 8000000 in
theorem zo6 (ax:Axs) (hx:zb7 ax) (k:Nat) (a:Rule) (b:Rule) (v:Bool) (H:zgh k a b=some v):Pure Tryz.prog (EE ax) [] 113 [zb6 a,zb6 b] (.bool v):=by
 rw [zgh] at H;refine en [.tmp 4] 61 [0,1] (hx.no _ (by decide)) (fn113 ax) ?_;intro h hh;repeat apply TW.seq
 refine rk [2,3] [] hh ?_;clear hh h;intro h hh;repeat apply TW.seq
 refine rk [2,3,13] [] hh ?_;clear hh h;intro h hh;rcases isp H with ⟨c1,H⟩|⟨c1,H⟩;rotate_left
 ·skip;repeat apply TW.seq
  refine cf (f2 hh (decide_eq_false c1)) ?_;repeat apply TW.seq
  refine sk ?_;repeat apply TW.seq
  refine rk [2,3,5] [] hh ?_;clear hh h;intro h hh;obtain ⟨o3,H1,H⟩:=zad H;repeat apply TW.seq
  refine cu [] 2 (fun h bs=>∃ s_:Unit,o3=.inr s_∧(True)∧bs=[.cells true 23 (T.int .i64 a.prio :: (a.mat.mask.l.map (T.int .i64)++(a.mat.bits.l.map (T.int .i64)++[T.int .i64 a.step,zaj a.outs]))),.cells true 23 (T.int .i64 b.prio :: (b.mat.mask.l.map (T.int .i64)++(b.mat.bits.l.map (T.int .i64)++[T.int .i64 b.step,zaj b.outs])))]) ?_ ?_
  ·skip;repeat apply TW.seq
   apply TW.block;repeat apply TW.seq
   refine TW.loopT [2,3,5] (fun m h bs=>∃ (k_:Int),zb3 k a b m k_=some o3∧(h 2=.ptr 0 0 23∧h 3=.ptr 1 0 23∧h 5=.int .i64 k_)∧bs=[.cells true 23 (T.int .i64 a.prio :: (a.mat.mask.l.map (T.int .i64)++(a.mat.bits.l.map (T.int .i64)++[T.int .i64 a.step,zaj a.outs]))),.cells true 23 (T.int .i64 b.prio :: (b.mat.mask.l.map (T.int .i64)++(b.mat.bits.l.map (T.int .i64)++[T.int .i64 b.step,zaj b.outs])))]) ?_ k _ _ ?_;rotate_left
   ·exact ⟨0,H1,kq hh,rfl⟩
   clear hh h H1;rintro m h bs ⟨k_,H1,hh,rfl⟩;rcases m with _|m
   ·rw [zb3] at H1;cases H1
   rw [zb3] at H1;repeat apply TW.seq
   refine rk [2,3,5,18] [] hh ?_;clear hh h;intro h hh;rcases isp H1 with ⟨c2,H1⟩|⟨c2,H1⟩;rotate_left
   ·skip;repeat apply TW.seq
    refine cf (f2 hh (decide_eq_false c2)) ?_;refine xk ?_;cases H1;exact ce hh ⟨_,rfl,kq hh,rfl⟩
   repeat apply TW.seq
   refine ct (f2 hh (decide_eq_true c2)) ?_;repeat apply TW.seq
   refine sk ?_;obtain ⟨o2,H2,H1⟩:=zad H1;repeat apply TW.seq
   refine cu [2,3,5] 2 (fun h bs=>∃ s_2:Unit,o2=.inr s_2∧(h 2=.ptr 0 0 23∧h 3=.ptr 1 0 23∧h 5=.int .i64 k_)∧bs=[.cells true 23 (T.int .i64 a.prio :: (a.mat.mask.l.map (T.int .i64)++(a.mat.bits.l.map (T.int .i64)++[T.int .i64 a.step,zaj a.outs]))),.cells true 23 (T.int .i64 b.prio :: (b.mat.mask.l.map (T.int .i64)++(b.mat.bits.l.map (T.int .i64)++[T.int .i64 b.step,zaj b.outs])))]) ?_ ?_
   ·skip;repeat apply TW.seq
    apply TW.block;obtain ⟨g3,H2⟩:=isg H2;obtain ⟨g4,H2⟩:=isg H2;repeat apply TW.seq
    refine dk 12 [2,3,5,33] [] [] [] (f3 hh (za7 g3) (za7 g4)) trivial trivial ?_;clear hh h;intro h hh;rcases isp H2 with ⟨c5,H2⟩|⟨c5,H2⟩;rotate_left
    ·skip;repeat apply TW.seq
     refine cf (f2 hh (decide_eq_false c5)) ?_;repeat apply TW.seq
     refine sk ?_;repeat apply TW.seq
     refine rk [2,3,5,6] [] hh ?_;clear hh h;intro h hh;obtain ⟨o,H3,H2⟩:=zad H2;repeat apply TW.seq
     refine cu [2,3,5] 2 (fun h bs=>∃ s_3:Unit,o=.inr s_3∧(h 2=.ptr 0 0 23∧h 3=.ptr 1 0 23∧h 5=.int .i64 k_)∧bs=[.cells true 23 (T.int .i64 a.prio :: (a.mat.mask.l.map (T.int .i64)++(a.mat.bits.l.map (T.int .i64)++[T.int .i64 a.step,zaj a.outs]))),.cells true 23 (T.int .i64 b.prio :: (b.mat.mask.l.map (T.int .i64)++(b.mat.bits.l.map (T.int .i64)++[T.int .i64 b.step,zaj b.outs])))]) ?_ ?_
     ·skip;repeat apply TW.seq
      apply TW.block;repeat apply TW.seq
      refine TW.loopT [2,3,5,6] (fun m h bs=>∃ (i:Int),zb2 k a b k_ m i=some o∧(h 2=.ptr 0 0 23∧h 3=.ptr 1 0 23∧h 5=.int .i64 k_∧h 6=.int .i64 i)∧bs=[.cells true 23 (T.int .i64 a.prio :: (a.mat.mask.l.map (T.int .i64)++(a.mat.bits.l.map (T.int .i64)++[T.int .i64 a.step,zaj a.outs]))),.cells true 23 (T.int .i64 b.prio :: (b.mat.mask.l.map (T.int .i64)++(b.mat.bits.l.map (T.int .i64)++[T.int .i64 b.step,zaj b.outs])))]) ?_ k _ _ ?_;rotate_left
      ·exact ⟨0,H3,kq hh,rfl⟩
      clear hh h H3;rintro m h bs ⟨i,H3,hh,rfl⟩;rcases m with _|m
      ·rw [zb2] at H3;cases H3
      rw [zb2] at H3;repeat apply TW.seq
      refine rk [2,3,5,6,41] [] (f2 hh (za7 g3)) ?_;clear hh h;intro h hh;rcases isp H3 with ⟨c6,H3⟩|⟨c6,H3⟩;rotate_left
      ·skip;repeat apply TW.seq
       refine cf (f2 hh (decide_eq_false c6)) ?_;refine xk ?_;cases H3;exact ce hh ⟨_,rfl,kq hh,rfl⟩
      repeat apply TW.seq
      refine ct (f2 hh (decide_eq_true c6)) ?_;repeat apply TW.seq
      refine sk ?_;repeat apply TW.seq
      apply TW.block;obtain ⟨g7,H3⟩:=isg H3;obtain ⟨g8,H3⟩:=isg H3;repeat apply TW.seq
      refine dk 16 [2,3,5,6,60] [] [] [] (f3 hh (za7 g3) (f3 (za7 g7) (za7 g4) (f2 (za7 g8) ((aq94 ax (gx (gx a.outs k_) i) (gx (gx b.outs k_) i)).2)))) trivial trivial ?_;clear hh h;intro h hh;rcases isp H3 with ⟨c9,H3⟩|⟨c9,H3⟩;rotate_left
      ·skip;repeat apply TW.seq
       refine ct (f2 hh (decide_eq_false c9)) ?_;repeat apply TW.seq
       refine rk [4] [] hh ?_;clear hh h;intro h hh;cases H3;obtain rfl:=sinm H2;obtain rfl:=sinm H1;obtain rfl:=sinl H;exact rt hh
      repeat apply TW.seq
      refine cf (f2 hh (decide_eq_true c9)) ?_;repeat apply TW.seq
      refine sk ?_;repeat apply TW.seq
      refine rk [2,3,5,6] [] hh ?_;clear hh h;intro h hh;exact rd m hh ⟨(IntKind.i64.wrap (i+1)),H3,kq hh,rfl⟩
     clear hh h;rintro h bs ⟨s_3,rfl,hh,rfl⟩;replace H2:=sinr H2;cases H2;exact ce hh ⟨_,rfl,kq hh,rfl⟩
    repeat apply TW.seq
    refine ct (f2 hh (decide_eq_true c5)) ?_;repeat apply TW.seq
    refine rk [4] [] hh ?_;clear hh h;intro h hh;cases H2;obtain rfl:=sinm H1;obtain rfl:=sinl H;exact rt hh
   clear hh h;rintro h bs ⟨s_2,rfl,hh,rfl⟩;replace H1:=sinr H1;repeat apply TW.seq
   refine rk [2,3,5] [] hh ?_;clear hh h;intro h hh;exact rd m hh ⟨(IntKind.i64.wrap (k_+1)),H1,kq hh,rfl⟩
  clear hh h;rintro h bs ⟨s_,rfl,hh,rfl⟩;replace H:=sinr H;repeat apply TW.seq
  refine rk [4] [] hh ?_;clear hh h;intro h hh;cases H;exact rt hh
 repeat apply TW.seq
 refine ct (f2 hh (decide_eq_true c1)) ?_;repeat apply TW.seq
 refine rk [4] [] hh ?_;clear hh h;intro h hh;cases H;exact rt hh
def zi9 (k:Nat) (a:Rule) (b:Rule):Option Bool:=(if a.step=b.step then ((zgh k a b).bind fun rsameOuts=>some rsameOuts) else some false)
set_option maxHeartbeats 8000000 in
theorem zu4 (ax:Axs) (hx:zb7 ax) (k:Nat) (a:Rule) (b:Rule) (v:Bool) (H:zi9 k a b=some v):Pure Tryz.prog (EE ax) [] 55 [zb6 a,zb6 b] (.bool v):=by
 rw [zi9] at H;refine en [.tmp 4] 15 [0,1] (hx.no _ (by decide)) (fn55 ax) ?_;intro h hh;repeat apply TW.seq
 refine rk [2,3] [] hh ?_;clear hh h;intro h hh;rcases isp H with ⟨c1,H⟩|⟨c1,H⟩;rotate_left
 ·skip;repeat apply TW.seq
  refine rk [4] [] (f2 hh (decide_eq_false c1)) ?_;clear hh h;intro h hh;cases H;exact rt hh
 obtain ⟨rsameOuts,e2,H⟩:=zad H;repeat apply TW.seq
 refine rkc [4] [] [(.bool rsameOuts,stL [.cells true 23 (T.int .i64 a.prio :: (a.mat.mask.l.map (T.int .i64)++(a.mat.bits.l.map (T.int .i64)++[T.int .i64 a.step,zaj a.outs]))),.cells true 23 (T.int .i64 b.prio :: (b.mat.mask.l.map (T.int .i64)++(b.mat.bits.l.map (T.int .i64)++[T.int .i64 b.step,zaj b.outs])))])] (f2 hh (decide_eq_true c1)) ?_ ?_
 ·exact ⟨zau.call ((zo6 ax hx k a b rsameOuts e2 ).call _),trivial⟩
 clear hh h;intro h hh;cases H;exact rt hh
def zgi (k:Nat) (a:Rule) (b:Rule):Option Bool:=(if a.prio=b.prio then (if a.mat=b.mat then ((zi9 k a b).bind fun ralike=>some ralike) else some false) else some false)
set_option maxHeartbeats 8000000 in
theorem zo7 (ax:Axs) (hx:zb7 ax) (k:Nat) (a:Rule) (b:Rule) (v:Bool) (H:zgi k a b=some v):Pure Tryz.prog (EE ax) [] 18 [zb6 a,zb6 b] (.bool v):=by
 rw [zgi] at H;refine en [.tmp 4] 22 [0,1] (hx.no _ (by decide)) (fn18 ax) ?_;intro h hh;repeat apply TW.seq
 refine rk [2,3] [] hh ?_;clear hh h;intro h hh;rcases isp H with ⟨c1,H⟩|⟨c1,H⟩;rotate_left
 ·skip;repeat apply TW.seq
  refine rk [4] [] (f2 hh (decide_eq_false c1)) ?_;clear hh h;intro h hh;cases H;exact rt hh
 rcases isp H with ⟨c2,H⟩|⟨c2,H⟩;rotate_left
 ·skip;repeat apply TW.seq
  refine rk [4] [] (f3 hh (decide_eq_true c1) (f2 (decide_eq_false c2) ((aq41 ax a.mat b.mat).1))) ?_;clear hh h;intro h hh;cases H;exact rt hh
 obtain ⟨ralike,e3,H⟩:=zad H;repeat apply TW.seq
 refine rkc [4] [] [(.bool ralike,stL [.cells true 23 (T.int .i64 a.prio :: (a.mat.mask.l.map (T.int .i64)++(a.mat.bits.l.map (T.int .i64)++[T.int .i64 a.step,zaj a.outs]))),.cells true 23 (T.int .i64 b.prio :: (b.mat.mask.l.map (T.int .i64)++(b.mat.bits.l.map (T.int .i64)++[T.int .i64 b.step,zaj b.outs])))])] (f3 hh (decide_eq_true c1) (f2 (decide_eq_true c2) ((aq41 ax a.mat b.mat).1))) ?_ ?_
 ·exact ⟨zau.call ((zu4 ax hx k a b ralike e3 ).call _),trivial⟩
 clear hh h;intro h hh;cases H;exact rt hh
def zec (k:Nat) (t:List Rule) (u:List Rule):Nat→Int→Option (Bool ⊕ Unit)
 |0,_=>none
 |m+1,k_=>(if k_<(t.length:Int) then (if (0:Int)≤k_∧k_<(t.length:Int) then (if (0:Int)≤k_∧k_<(u.length:Int) then ((zgi k (gx t k_) (gx u k_)).bind fun rSameRule=>(if rSameRule=true then zec k t u m (IntKind.i64.wrap (k_+1)) else some (.inl false))) else none) else none) else some (.inr ()))
def zid (k:Nat) (t:List Rule) (u:List Rule):Option Bool:=(if (t.length:Int)≠(u.length:Int) then some false else ((zec k t u k 0:Option (Bool ⊕ Unit)).bind fun o=>Sum.elim (fun r=>some r) (fun s_=>some true) o))
set_option maxHeartbeats 8000000 in
theorem zhj (ax:Axs) (hx:zb7 ax) (k:Nat) (t:List Rule) (u:List Rule) (v:Bool) (H:zid k t u=some v):Pure Tryz.prog (EE ax) [] 16 [zat t,zat u] (.bool v):=by
 rw [zid] at H;refine en [.tmp 4] 29 [0,1] (hx.no _ (by decide)) (fn16 ax) ?_;intro h hh;repeat apply TW.seq
 refine rk [0,1] [] hh ?_;clear hh h;intro h hh;repeat apply TW.seq
 refine rk [0,1,11] [] hh ?_;clear hh h;intro h hh;rcases isp H with ⟨c1,H⟩|⟨c1,H⟩;rotate_left
 ·skip;repeat apply TW.seq
  refine cf (f2 hh (decide_eq_false c1)) ?_;repeat apply TW.seq
  refine sk ?_;repeat apply TW.seq
  refine rk [0,1,5] [] hh ?_;clear hh h;intro h hh;obtain ⟨o,H1,H⟩:=zad H;repeat apply TW.seq
  refine cu [] 0 (fun h bs=>∃ s_:Unit,o=.inr s_∧(True)∧bs=[]) ?_ ?_
  ·skip;repeat apply TW.seq
   apply TW.block;repeat apply TW.seq
   refine TW.loopT [0,1,5] (fun m h bs=>∃ (k_:Int),zec k t u m k_=some o∧(h 0=zat t∧h 1=zat u∧h 5=.int .i64 k_)∧bs=[]) ?_ k _ _ ?_;rotate_left
   ·exact ⟨0,H1,kq hh,rfl⟩
   clear hh h H1;rintro m h bs ⟨k_,H1,hh,rfl⟩;rcases m with _|m
   ·rw [zec] at H1;cases H1
   rw [zec] at H1;repeat apply TW.seq
   refine rk [0,1,5,15] [] hh ?_;clear hh h;intro h hh;rcases isp H1 with ⟨c2,H1⟩|⟨c2,H1⟩;rotate_left
   ·skip;repeat apply TW.seq
    refine cf (f2 hh (decide_eq_false c2)) ?_;refine xk ?_;cases H1;exact ce hh ⟨_,rfl,kq hh,rfl⟩
   repeat apply TW.seq
   refine ct (f2 hh (decide_eq_true c2)) ?_;repeat apply TW.seq
   refine sk ?_;repeat apply TW.seq
   apply TW.block;obtain ⟨g3,H1⟩:=isg H1;obtain ⟨g4,H1⟩:=isg H1;obtain ⟨rSameRule,e5,H1⟩:=zad H1;repeat apply TW.seq
   refine dk 8 [0,1,5,6] [] [] [(.bool rSameRule,stL [])] (f3 hh (za7 g3) (za7 g4)) trivial ?_ ?_
   ·exact ⟨zau.call ((zo7 ax hx k (gx t k_) (gx u k_) rSameRule e5 ).call _),trivial⟩
   clear hh h;intro h hh;repeat apply TW.seq
   refine rk [0,1,5,28] [] hh ?_;clear hh h;intro h hh;rcases isb H1 with ⟨c6,H1⟩|⟨c6,H1⟩;rotate_left
   ·skip;repeat apply TW.seq
    refine ct (f2 hh c6) ?_;repeat apply TW.seq
    refine rk [4] [] (f2 hh c6) ?_;clear hh h;intro h hh;cases H1;obtain rfl:=sinl H;exact rt hh
   repeat apply TW.seq
   refine cf (f2 hh c6) ?_;repeat apply TW.seq
   refine sk ?_;repeat apply TW.seq
   refine rk [0,1,5] [] (f2 hh c6) ?_;clear hh h;intro h hh;exact rd m hh ⟨(IntKind.i64.wrap (k_+1)),H1,kq hh,rfl⟩
  clear hh h;rintro h bs ⟨s_,rfl,hh,rfl⟩;replace H:=sinr H;repeat apply TW.seq
  refine rk [4] [] hh ?_;clear hh h;intro h hh;cases H;exact rt hh
 repeat apply TW.seq
 refine ct (f2 hh (decide_eq_true c1)) ?_;repeat apply TW.seq
 refine rk [4] [] hh ?_;clear hh h;intro h hh;cases H;exact rt hh
end
section
open Go Go.RowKit
theorem z9x {α:Type} [DecidableEq α] (a b:List α) (h:a.length=b.length):((List.range a.length).all fun j=>decide (a[j]?=b[j]?))=decide (a=b):=by
  rw [Bool.eq_iff_iff,List.all_eq_true,decide_eq_true_eq];constructor
  · intro hh;apply List.ext_getElem?;intro i;by_cases hi:i<a.length
    · have:=hh i (List.mem_range.2 hi);simpa using this
    · rw [List.getElem?_eq_none (by omega),List.getElem?_eq_none (by omega)]
  · rintro rfl j _;simp
theorem lt10 {a:Nat} (h:a<10):(a:Int)<10:=by omega
theorem zbc {a b:Nat} (h:a<b):(a:Int)<(b:Int):=by omega
/-! patterns -/
/-! rules and tables -/
def zxt (r:Rule):Prop:=r.outs.length<big∧∀ l,l∈r.outs→l.length<big
def z48 (t:List Rule):Prop:=t.length<big∧∀ r,r∈t→zxt r
theorem zxg {k:Nat} (a b:Rule) (ha:zxt a) (hk:big≤k):zgh k a b=some (decide (a.outs=b.outs)):=by
  unfold zgh;by_cases hlen:a.outs.length=b.outs.length
  · rw [if_neg (by omega),zq9 (L:=zb3 k a b) a.outs.length false (fun j=>decide (a.outs[j]?=b.outs[j]?)) ha.1 (fun m j h=>by
      have h2:j<b.outs.length:=by omega
      rw [zb3,if_pos (zbc h),if_pos ⟨by omega,zbc h⟩,if_pos ⟨by omega,zbc h2⟩,zfi h,zfi h2];have hx:=ha.2 _ (List.getElem_mem h);rw [List.getElem?_eq_getElem h,List.getElem?_eq_getElem h2];by_cases hl2:a.outs[j].length=b.outs[j].length
      · rw [if_neg (by omega),zq9 (L:=zb2 k a b (j:Int)) a.outs[j].length false (fun i=>decide (a.outs[j][i]?=b.outs[j][i]?)) hx (fun m i hi=>by
          have hi2:i<b.outs[j].length:=by omega
          rw [zb2,zfi h,zfi h2,if_pos (zbc hi),if_pos ⟨by omega,zbc hi⟩,if_pos ⟨by omega,zbc hi2⟩,zfi hi,zfi hi2,List.getElem?_eq_getElem hi,List.getElem?_eq_getElem hi2]
          simp only [Option.some.injEq,decide_eq_true_eq]) (fun m=>by rw [zb2,zfi h,if_neg (by omega)]) (Nat.lt_of_lt_of_le hx hk),z9x _ _ hl2,Option.bind_some]
        by_cases c:a.outs[j]=b.outs[j]
        · rw [decide_eq_true c,decide_eq_true (congrArg some c)];rfl
        · rw [decide_eq_false c,decide_eq_false (fun h=>c (Option.some.inj h))];rfl
      · rw [if_pos (by omega),decide_eq_false (fun h=>hl2 (by rw [Option.some.inj h]))];rfl) (fun m=>by rw [zb3,if_neg (by omega)]) (Nat.lt_of_lt_of_le ha.1 hk),z9x _ _ hlen,Option.bind_some]
    cases decide (a.outs=b.outs)<;>rfl
  · rw [if_pos (by omega)];congr 1;exact (decide_eq_false fun h=>hlen (by rw [h])).symm
theorem z7p {k:Nat} (a b:Rule) (ha:zxt a) (hk:big≤k):zi9 k a b=some (decide (a.step=b.step∧a.outs=b.outs)):=by
  unfold zi9;rw [zxg a b ha hk];by_cases c:a.step=b.step
  · rw [if_pos c];simp [c]
  · rw [if_neg c];simp [c]
theorem zxh {k:Nat} (a b:Rule) (ha:zxt a) (hk:big≤k):zgi k a b=some (decide (a=b)):=by
  unfold zgi;rw [z7p a b ha hk];obtain ⟨p,m,s,o⟩:=a;obtain ⟨p2,m2,s2,o2⟩:=b;simp only [Rule.mk.injEq];by_cases c1:p=p2
  · rw [if_pos c1];by_cases c2:m=m2
    · rw [if_pos c2];simp [c1,c2]
    · rw [if_neg c2];simp [c2]
  · rw [if_neg c1];simp [c1]
theorem z2g {k:Nat} (t u:List Rule) (ht:z48 t) (hk:big≤k):zid k t u=some (decide (t=u)):=by
  unfold zid;by_cases hlen:t.length=u.length
  · rw [if_neg (by omega),zq9 (L:=zec k t u) t.length false (fun j=>decide (t[j]?=u[j]?)) ht.1 (fun m j h=>by
      have h2:j<u.length:=by omega
      rw [zec,if_pos (zbc h),if_pos ⟨by omega,zbc h⟩,if_pos ⟨by omega,zbc h2⟩,zfi h,zfi h2,zxh _ _ (ht.2 _ (List.getElem_mem h)) hk,Option.bind_some,List.getElem?_eq_getElem h,List.getElem?_eq_getElem h2]
      simp only [Option.some.injEq]) (fun m=>by rw [zec,if_neg (by omega)]) (Nat.lt_of_lt_of_le ht.1 hk),z9x t u hlen,Option.bind_some]
    cases decide (t=u)<;>rfl
  · rw [if_pos (by omega)];congr 1;exact (decide_eq_false fun h=>hlen (by rw [h])).symm
end
section
open Go Go.RowKit WM
set_option maxRecDepth 100000
def i64 (n:Int):Prop:=-9223372036854775808≤n∧n≤9223372036854775807
theorem zsg {k:Nat} (hk:20≤k) {n:Int} (h:i64 n):zc5 k n=some (encI n)∧zhd k n=some (encI n):=by
  have:=ycf (k - 20) n h.1 h.2
  rwa [Nat.sub_add_cancel hk] at this
theorem yij (k:Nat):∀ (m:Nat) (z:Int) (l:List Int) (c:Nat),zdv k m z l c=zcz k m z l c
  |0,_,_,_=>rfl
  |m+1,z,l,c=>by rw [zdv,zcz,yij]
theorem yi2 (k:Nat):∀ (m:Nat) (z:Int) (l:List Int) (c:Nat),zei k m z l c=zdx k m z l c
  |0,_,_,_=>rfl
  |m+1,z,l,c=>by rw [zei,zdx,yi2]
theorem ztr {k:Nat} (hk:20≤k) {n:Int} (h:i64 n):zeg k n=some (encI n,(encI n).length)∧zg3 k n=some (encI n,(encI n).length):=by
  obtain ⟨k,rfl⟩:∃ j,k=j+20:=⟨k - 20,by omega⟩;have hl:=z0y h.1 h.2;obtain ⟨z',l',c',e1,e2,e3,e4,e5,e6⟩:=z8z (k+20) (k+20) (zig n) [] 0 (by unfold enc at hl;omega) (z1e h.1 h.2) (by unfold enc at hl;omega) rfl;rw [List.nil_append] at e4
  have hlen:(encI n).length=c'+1:=by
    show (bvi (venc (zig n))).length=c'+1;rw [← e4,List.length_append,e6];rfl
  have he:encI n=l'++[(z':Int)]:=e4.symm;constructor
  · unfold zeg;rw [if_pos (by omega),if_pos (by omega),show iXor .u64 (iShl .u64 (IntKind.u64.wrap n) 1) (IntKind.u64.wrap (iShr .i64 n 63))=(zig n:Int) from pzig n h.1 h.2,yij,e1];simp only [Option.bind_some];rw [if_pos (by omega),w8 (by omega),hlen,he]
  · unfold zg3;rw [rzig n h.1 h.2];simp only [Option.bind_some];rw [yi2,e2];simp only [Option.bind_some];rw [if_pos (by omega),w8 (by omega),hlen,he]
theorem ap2 {β:Type} {F:List Int→Nat→Option β} {l r:List Int} {n:Nat} (hb:n+r.length≤400000000):(if (n+r.length)*2≤1000000000 then (if r.length=0 then F l n else F (l++r) (n+r.length)) else none)=F (l++r) (n+r.length):=by
  rw [if_pos (by omega)];by_cases c:r.length=0
  · have:=List.eq_nil_of_length_eq_zero c;subst this;rw [if_pos c,List.append_nil];rfl
  · rw [if_neg c]
theorem ap1 {l r:List Int} {n:Nat} (hb:n+r.length≤400000000):(if (n+r.length)*2≤1000000000 then (if r.length=0 then some (l,n) else some (l++r,n+r.length)) else none)=some (l++r,n+r.length):=ap2 (F:=fun a b=>some (a,b)) hb
theorem zhe {α:Type} {L:Nat→Int→List Int→Nat→Option (List Int×Nat)} (l:List α) (g:α→List Int) (hn:l.length<big)
    (hs:∀ m (j:Nat) (h:j<l.length) acc n,acc.length=n→n+(g l[j]).length≤400000000→L (m+1) (j:Int) acc n=L m (IntKind.i64.wrap ((j:Int)+1)) (acc++g l[j]) (n+(g l[j]).length)) (he:∀ m acc n,L (m+1) (l.length:Int) acc n=some (acc,n)) :
    ∀ (m j:Nat) (acc:List Int) (n:Nat),j≤l.length→l.length - j<m→acc.length=n→n+((l.drop j).flatMap g).length≤400000000→L m (j:Int) acc n=some (acc++(l.drop j).flatMap g,(acc++(l.drop j).flatMap g).length):=by
  intro m
  induction m with
  |zero=>intro j acc n h1 h2;omega
  |succ m ih =>
    intro j acc n h1 h2 h3 h4;by_cases c:j<l.length
    · rw [List.drop_eq_getElem_cons c,List.flatMap_cons,List.length_append] at h4;rw [hs m j c acc n h3 (by omega),zp3 j (by simp only [big] at hn;omega),ih (j+1) _ _ (by omega) (by omega) (by rw [List.length_append,h3]) (by omega),List.drop_eq_getElem_cons c,List.flatMap_cons,List.append_assoc]
    · obtain rfl:j=l.length:=by omega
      rw [he,List.drop_length,List.flatMap_nil,List.append_nil,h3]
def zc2 (l:List Int):List Int:=encI (l.length:Int)++l.flatMap encI
theorem zrs {l:List Int} (h:∀ x,x∈l→i64 x):(l.flatMap encI).length≤10*l.length:=by
  induction l with
  |nil=>simp
  |cons x l ih =>
    rw [List.flatMap_cons,List.length_append,List.length_cons];have:=zhf (h x (.head _)).1 (h x (.head _)).2;have:=ih fun y hy=>h y (.tail _ hy);omega
theorem znd {l:List Int} (hl:l.length≤1000) (h:∀ x,x∈l→i64 x):(zc2 l).length≤10+10*l.length:=by
  unfold zc2;rw [List.length_append];have:=zhf (n:=(l.length:Int)) (by omega) (by omega);have:=zrs h;omega
section
variable {k:Nat}
theorem z55 (hk:big≤k) (l:List Int) (hl:l.length≤1000) (h:∀ x,x∈l→i64 x):zi7 k l=some (zc2 l):=by
  have hk':9223372036854775808≤k:=hk;have hle:=znd hl h;have e0:=zhf (n:=(l.length:Int)) (by omega) (by omega);have e1:=zrs h;unfold zi7 zha;rw [(ztr (by omega) ⟨by omega,by omega⟩).1,Option.bind_some]
  have:=zhe (L:=za4 k l fun y=>zc5 k y) l encI (by simp only [big];omega) (fun m j hj acc n hq hb=>by
    rw [za4,if_pos (zbc hj),if_pos ⟨by omega,zbc hj⟩,zfi hj,(zsg (by omega) (h _ (List.getElem_mem hj))).1,Option.bind_some,ap2 (F:=fun a b=>za4 k l (fun y=>zc5 k y) m (IntKind.i64.wrap ((j:Int)+1)) a b) hb]) (fun m acc n=>by rw [za4,if_neg (by omega)]) k 0 (encI (l.length:Int)) _ (Nat.zero_le _) (by omega) rfl (by rw [List.drop_zero];omega)
  rw [List.drop_zero] at this;dsimp only;change za4 k l (fun y=>zc5 k y) k 0 _ _=_ at this;rw [this,Option.bind_some,if_pos rfl];rfl
theorem zp4 (hk:big≤k) (a:Ar 10) (h:∀ x,x∈a.l→i64 x):zf2 k a=some (zc2 a.l,(zc2 a.l).length):=by
  have hk':9223372036854775808≤k:=hk;have hl:=a.h;have e0:=zhf (n:=(10:Int)) (by omega) (by omega);have e1:=zrs h;unfold zf2 zem;rw [(ztr (by omega) ⟨by omega,by omega⟩).1,Option.bind_some]
  have:=zhe (L:=zak k a) a.l encI (by rw [hl];decide) (fun m j hj acc n hq hb=>by
    have hj':j<10:=by rw [hl] at hj;exact hj
    rw [zak,if_pos (lt10 hj'),if_pos ⟨by omega,lt10 hj'⟩,zfi hj,(zsg (by omega) (h _ (List.getElem_mem hj))).1,Option.bind_some,ap2 (F:=fun a' b=>zak k a m (IntKind.i64.wrap ((j:Int)+1)) a' b) hb]) (fun m acc n=>by rw [zak,hl,if_neg (by decide)]) k 0 (encI 10) _ (Nat.zero_le _) (by omega) rfl (by rw [List.drop_zero];omega)
  rw [List.drop_zero] at this;dsimp only;change zak k a k 0 _ _=_ at this;have ee:zc2 a.l=encI 10++a.l.flatMap encI:=by unfold zc2;rw [hl];rfl
  rw [this,Option.bind_some,Option.bind_some,ee]
theorem ydm (a:Ar 10):∀ (m:Nat) (i:Int) (l:List Int) (n:Nat),zba k a m i l n=zak k a m i l n
  |0,_,_,_=>rfl
  |m+1,i,l,n=>by
    rw [zba,zak];simp only [ydm a m]
theorem zwn (hk:big≤k) (a:Ar 10) (h:∀ x,x∈a.l→i64 x):zgc k a=some (zc2 a.l):=by
  have:=zp4 hk a h;unfold zgc zfc;unfold zf2 zem at this;simp only [ydm]
  cases e1:zeg k 10 with
  |none=>rw [e1] at this;cases this
  |some rb =>
    rw [e1,Option.bind_some] at this
    cases e2:zak k a k 0 rb.1 rb.2 with
    |none=>rw [e2] at this;cases this
    |some s =>
      rw [e2,Option.bind_some,Option.bind_some] at this;simp only [Option.some.injEq,Prod.mk.injEq] at this;rw [Option.bind_some,e2,Option.bind_some,this.1,this.2,if_pos rfl];rfl
theorem zst (hk:big≤k) (a b:Ar 10) (ha:∀ x,x∈a.l→i64 x) (hb:∀ x,x∈b.l→i64 x):zgz k a b=some (zc2 a.l++zc2 b.l):=by
  have h1:=znd (by rw [a.h];decide) ha;have h2:=znd (by rw [b.h];decide) hb;rw [a.h] at h1;rw [b.h] at h2;unfold zgz;rw [zp4 hk a ha,Option.bind_some,zwn hk b hb,Option.bind_some];dsimp only;rw [if_pos (by omega)]
  have hp:0<(zc2 b.l).length:=by
    unfold zc2;rw [List.length_append];have:=ycn (b.l.length:Int);omega
  rw [if_neg (by omega),if_pos (by rw [List.length_append])]
theorem ybn (hk:big≤k) (l:List Int) (hl:l.length≤1000) (h:∀ x,x∈l→i64 x):zks k l=some (zc2 l):=by
  have hk':9223372036854775808≤k:=hk;have e0:=zhf (n:=(l.length:Int)) (by omega) (by omega);have e1:=zrs h;unfold zks;rw [(ztr (by omega) ⟨by omega,by omega⟩).2,Option.bind_some]
  have:=zhe (L:=zcl k l) l encI (by simp only [big];omega) (fun m j hj acc n hq hb=>by
    rw [zcl,if_pos (zbc hj),if_pos ⟨by omega,zbc hj⟩,zfi hj,(zsg (by omega) (h _ (List.getElem_mem hj))).2,Option.bind_some,ap2 (F:=fun a b=>zcl k l m (IntKind.i64.wrap ((j:Int)+1)) a b) hb]) (fun m acc n=>by rw [zcl,if_neg (by omega)]) k 0 (encI (l.length:Int)) _ (Nat.zero_le _) (by omega) rfl (by rw [List.drop_zero];omega)
  rw [List.drop_zero] at this;dsimp only;change zcl k l k 0 _ _=_ at this;rw [this,Option.bind_some,if_pos rfl];rfl
theorem z44 (hk:big≤k) (l:List Int) (hl:l.length≤1000) (h:∀ x,x∈l→i64 x):zie k l.length l=some (zc2 l):=by
  have hk':9223372036854775808≤k:=hk;have e0:=zhf (n:=(l.length:Int)) (by omega) (by omega);have e1:=zrs h;unfold zie;rw [(ztr (by omega) ⟨by omega,by omega⟩).2,Option.bind_some]
  have:=zhe (L:=zbm k l.length l) l encI (by simp only [big];omega) (fun m j hj acc n hq hb=>by
    have eg:l.getD ((j:Int)).toNat default=l[j]:=by rw [show ((j:Int)).toNat=j by omega,List.getD_eq_getElem?_getD,List.getElem?_eq_getElem hj];rfl
    rw [zbm,if_pos (zbc hj),if_pos ⟨by omega,zbc hj⟩,if_pos (by omega),eg,(zsg (by omega) (h _ (List.getElem_mem hj))).2,Option.bind_some,ap2 (F:=fun a b=>zbm k l.length l m (IntKind.i64.wrap ((j:Int)+1)) a b) hb]) (fun m acc n=>by rw [zbm,if_neg (by omega)]) k 0 (encI (l.length:Int)) _ (Nat.zero_le _) (by omega) rfl (by rw [List.drop_zero];omega)
  rw [List.drop_zero] at this;dsimp only;change zbm k l.length l k 0 _ _=_ at this;rw [this,Option.bind_some,if_pos rfl];rfl
theorem zmx (hk:big≤k) (a:Ar 10) (h:∀ x,x∈a.l→i64 x):zf3 k a=some (zc2 a.l):=by
  have hk':9223372036854775808≤k:=hk
  have key:∀ (m j:Nat),j≤10→10 - j<m→zdk k a m (j:Int) (a.l.take j) j=some (a.l,10):=by
    intro m
    induction m with
    |zero=>intro j h1 h2;omega
    |succ m ih =>
      intro j h1 h2;rw [zdk];by_cases c:j<10
      · have cl:j<a.l.length:=by rw [a.h];exact c
        have:=ih (j+1) (by omega) (by omega);rw [List.take_add_one,List.getElem?_eq_getElem cl,Option.toList_some] at this;rw [if_pos (lt10 c),if_pos ⟨by omega,lt10 c⟩,if_pos (by omega),zfi cl,zp3 j (by omega)];exact this
      · obtain rfl:j=10:=by omega
        rw [if_neg (by decide),List.take_of_length_le (by rw [a.h];exact Nat.le_refl _)]
  have:=key k 0 (by omega) (by omega);change zdk k a k 0 [] 0=_ at this;have hb:=z44 hk a.l (by rw [a.h];decide) h;rw [a.h] at hb;unfold zf3;rw [this,Option.bind_some,hb];rfl
end
def encA (a:Alt):List Int:=encI a.link++(zc2 a.mod.mask.l++zc2 a.mod.bits.l)
def encO (l:List Alt):List Int:=encI (l.length:Int)++l.flatMap encA
def encR (r:Rule):List Int:=zc2 [r.prio,r.step]++((zc2 r.mat.mask.l++zc2 r.mat.bits.l)++(encI (r.outs.length:Int)++r.outs.flatMap encO))
def encT (t:List Rule):List Int:=encI (t.length:Int)++t.flatMap encR
structure I64P (p:Pat):Prop where
  mask:∀ x,x∈p.mask.l→i64 x
  bits:∀ x,x∈p.bits.l→i64 x
structure I64A (a:Alt):Prop where
  link:i64 a.link
  mod:I64P a.mod
structure I64R (r:Rule):Prop where
  prio:i64 r.prio
  step:i64 r.step
  mat:I64P r.mat
  len:r.outs.length<9223372036854775808
  outs:∀ l,l∈r.outs→l.length<9223372036854775808∧∀ a,a∈l→I64A a
section
variable {k:Nat}
theorem zn4 {α:Type} {l:List α} (h:l.length<9223372036854775808):i64 (l.length:Int):=⟨by omega,by omega⟩
theorem zuu {r:Rule} (h:I64R r):∀ x,x∈[r.prio,r.step]→i64 x:=fun x hx=>by
  rcases List.mem_cons.1 hx with rfl|hx
  · exact h.prio
  · cases List.mem_singleton.1 hx;exact h.step
theorem zdf {α:Type} (l:List α) (g:α→List Int):(l.drop 0).flatMap g=l.flatMap g:=by rw [List.drop_zero]
theorem ygv (hk:big≤k) (t:List Rule) (i i2:Int) (l:List Alt) (el:gx ((gx t i).outs) i2=l) (hl:l.length<9223372036854775808) (h:∀ a,a∈l→I64A a) (acc:List Int) (hb:acc.length+(l.flatMap encA).length≤400000000):za9 k t i i2 k 0 acc acc.length=some (acc++l.flatMap encA,(acc++l.flatMap encA).length):=by
  have hk':9223372036854775808≤k:=hk
  have:=zhe (L:=za9 k t i i2) l encA (by simp only [big];omega) (fun m j hj acc n hq hb=>by
    have ha:=h _ (List.getElem_mem hj);have e1:(encA l[j]).length=(encI l[j].link).length+(zc2 l[j].mod.mask.l++zc2 l[j].mod.bits.l).length:=by unfold encA;rw [List.length_append]
    rw [za9,el,if_pos (zbc hj),if_pos ⟨by omega,zbc hj⟩,zfi hj,(zsg (by omega) ha.link).1,Option.bind_some,ap1 (by omega),Option.bind_some,zst hk _ _ ha.mod.mask ha.mod.bits,Option.bind_some];dsimp only;rw [ap2 (F:=fun a b=>za9 k t i i2 m (IntKind.i64.wrap ((j:Int)+1)) a b) (by omega)];congr 1
    · unfold encA;rw [List.append_assoc]
    · omega) (fun m acc n=>by rw [za9,el,if_neg (by omega)]) k 0 acc _ (Nat.zero_le _) (by omega) rfl (by rw [zdf];exact hb)
  rw [zdf] at this;exact this
theorem ygw (hk:big≤k) (t:List Rule) (i:Int) (r:Rule) (er:gx t i=r) (h:I64R r) (acc:List Int) (hb:acc.length+(r.outs.flatMap encO).length≤400000000):zbo k t i k 0 acc acc.length=some (acc++r.outs.flatMap encO,(acc++r.outs.flatMap encO).length):=by
  have hk':9223372036854775808≤k:=hk
  have:=zhe (L:=zbo k t i) r.outs encO (by simp only [big];have:=h.len;omega) (fun m j hj acc n hq hb=>by
    obtain ⟨hl,ha⟩:=h.outs _ (List.getElem_mem hj);have e1:(encO r.outs[j]).length=(encI (r.outs[j].length:Int)).length+(r.outs[j].flatMap encA).length:=by unfold encO;rw [List.length_append]
    subst hq;rw [zbo,er,if_pos (zbc hj),if_pos ⟨by omega,zbc hj⟩,zfi hj,(zsg (by omega) (zn4 hl)).1,Option.bind_some,ap1 (by omega),Option.bind_some];have e2:=ygv hk t i (j:Int) r.outs[j] (by rw [er,zfi hj]) hl ha (acc++encI (r.outs[j].length:Int)) (by rw [List.length_append];omega);rw [List.length_append] at e2;dsimp only;rw [e2,Option.bind_some,Option.bind_some];dsimp only;rw [List.append_assoc,List.length_append]
    rfl) (fun m acc n=>by rw [zbo,er,if_neg (by omega)]) k 0 acc _ (Nat.zero_le _) (by have:=h.len;omega) rfl (by rw [zdf];exact hb)
  rw [zdf] at this;exact this
theorem zv0 (r:Rule):(encR r).length=(zc2 [r.prio,r.step]).length+((zc2 r.mat.mask.l++zc2 r.mat.bits.l).length+((encI (r.outs.length:Int)).length+(r.outs.flatMap encO).length)):=by
  unfold encR;simp only [List.length_append]
theorem zog (hk:big≤k) (t:List Rule) (hl:t.length<9223372036854775808) (h:∀ r,r∈t→I64R r) (hb:(encT t).length≤400000000):zeh k t=some (encT t):=by
  have hk':9223372036854775808≤k:=hk;unfold encT at hb;rw [List.length_append] at hb;unfold zeh;rw [(ztr (by omega) (zn4 hl)).1,Option.bind_some]
  have:=zhe (L:=zbp k t) t encR (by simp only [big];omega) (fun m j hj acc n hq hb=>by
    have hr:=h _ (List.getElem_mem hj);have e1:=zv0 t[j];subst hq;rw [zbp,if_pos (zbc hj),if_pos ⟨by omega,zbc hj⟩,zfi hj,z55 hk _ (by simp) (zuu hr),Option.bind_some,ap1 (by omega),Option.bind_some,zst hk _ _ hr.mat.mask hr.mat.bits,Option.bind_some];dsimp only;rw [ap1 (by omega),Option.bind_some,(zsg (by omega) (zn4 hr.len)).1,Option.bind_some];dsimp only;rw [ap1 (by omega),Option.bind_some];have e2:=ygw hk t (j:Int) t[j] (zfi hj) hr (acc++zc2 [t[j].prio,t[j].step]++(zc2 t[j].mat.mask.l++zc2 t[j].mat.bits.l)++encI (t[j].outs.length:Int)) (by rw [List.length_append,List.length_append,List.length_append];omega);rw [List.length_append (bs:=t[j].outs.flatMap encO)] at e2;rw [show acc.length+(zc2 [t[j].prio,t[j].step]).length+(zc2 t[j].mat.mask.l++zc2 t[j].mat.bits.l).length+(encI (t[j].outs.length:Int)).length=(acc++zc2 [t[j].prio,t[j].step]++(zc2 t[j].mat.mask.l++zc2 t[j].mat.bits.l)++encI (t[j].outs.length:Int)).length from by simp only [List.length_append]];dsimp only;rw [e2,Option.bind_some,Option.bind_some];dsimp only;congr 1
    · unfold encR;simp only [List.append_assoc]
    · rw [e1];simp only [List.length_append];omega) (fun m acc n=>by rw [zbp,if_neg (by omega)]) k 0 (encI (t.length:Int)) _ (Nat.zero_le _) (by omega) rfl (by rw [zdf];omega)
  rw [zdf] at this;dsimp only;change zbp k t k 0 _ _=_ at this;rw [this,Option.bind_some,if_pos rfl];rfl
theorem yg8 (hk:big≤k) (t:List Rule) (i i2:Int) (l:List Alt) (el:gx ((gx t i).outs) i2=l) (hi2:(0:Int)≤i2∧i2<((gx t i).outs.length:Int)) (hl:l.length<9223372036854775808) (h:∀ a,a∈l→I64A a) (acc:List Int) (hb:acc.length+(l.flatMap encA).length≤400000000):zbl k t i i2 k 0 acc acc.length=some (acc++l.flatMap encA,(acc++l.flatMap encA).length):=by
  have hk':9223372036854775808≤k:=hk
  have:=zhe (L:=zbl k t i i2) l encA (by simp only [big];omega) (fun m j hj acc n hq hb=>by
    have ha:=h _ (List.getElem_mem hj);have e1:(encA l[j]).length=(encI l[j].link).length+((zc2 l[j].mod.mask.l).length+(zc2 l[j].mod.bits.l).length):=by unfold encA;rw [List.length_append,List.length_append]
    rw [zbl,if_pos hi2,el,if_pos (zbc hj),if_pos ⟨by omega,zbc hj⟩,zfi hj,(zsg (by omega) ha.link).2,Option.bind_some,ap1 (by omega),Option.bind_some,zmx hk _ ha.mod.mask,Option.bind_some];dsimp only;rw [ap1 (by omega),Option.bind_some,zmx hk _ ha.mod.bits,Option.bind_some];dsimp only;rw [ap2 (F:=fun a b=>zbl k t i i2 m (IntKind.i64.wrap ((j:Int)+1)) a b) (by omega)];congr 1
    · unfold encA;simp only [List.append_assoc]
    · omega) (fun m acc n=>by rw [zbl,if_pos hi2,el,if_neg (by omega)]) k 0 acc _ (Nat.zero_le _) (by omega) rfl (by rw [zdf];exact hb)
  rw [zdf] at this;exact this
theorem yg9 (hk:big≤k) (t:List Rule) (i:Int) (r:Rule) (er:gx t i=r) (h:I64R r) (acc:List Int) (hb:acc.length+(r.outs.flatMap encO).length≤400000000):zcd k t i k 0 acc acc.length=some (acc++r.outs.flatMap encO,(acc++r.outs.flatMap encO).length):=by
  have hk':9223372036854775808≤k:=hk
  have:=zhe (L:=zcd k t i) r.outs encO (by simp only [big];have:=h.len;omega) (fun m j hj acc n hq hb=>by
    obtain ⟨hl,ha⟩:=h.outs _ (List.getElem_mem hj);have e1:(encO r.outs[j]).length=(encI (r.outs[j].length:Int)).length+(r.outs[j].flatMap encA).length:=by unfold encO;rw [List.length_append]
    subst hq;rw [zcd,er,if_pos (zbc hj),if_pos ⟨by omega,zbc hj⟩,zfi hj,(zsg (by omega) (zn4 hl)).2,Option.bind_some,ap1 (by omega),Option.bind_some];have e2:=yg8 hk t i (j:Int) r.outs[j] (by rw [er,zfi hj]) (by rw [er];exact ⟨by omega,zbc hj⟩) hl ha (acc++encI (r.outs[j].length:Int)) (by rw [List.length_append];omega);rw [List.length_append] at e2;dsimp only;rw [e2,Option.bind_some,Option.bind_some];dsimp only;rw [List.append_assoc,List.length_append]
    rfl) (fun m acc n=>by rw [zcd,er,if_neg (by omega)]) k 0 acc _ (Nat.zero_le _) (by have:=h.len;omega) rfl (by rw [zdf];exact hb)
  rw [zdf] at this;exact this
theorem z42 (hk:big≤k) (t:List Rule) (hl:t.length<9223372036854775808) (h:∀ r,r∈t→I64R r) (hb:(encT t).length≤400000000):zg1 k t=some (encT t):=by
  have hk':9223372036854775808≤k:=hk;unfold encT at hb;rw [List.length_append] at hb;unfold zg1;rw [(ztr (by omega) (zn4 hl)).2,Option.bind_some]
  have:=zhe (L:=zce k t) t encR (by simp only [big];omega) (fun m j hj acc n hq hb=>by
    have hr:=h _ (List.getElem_mem hj);have e1:=zv0 t[j];rw [List.length_append] at e1;subst hq;rw [zce,if_pos (zbc hj),if_pos ⟨by omega,zbc hj⟩,zfi hj,ybn hk _ (by simp) (zuu hr),Option.bind_some,ap1 (by omega),Option.bind_some,zmx hk _ hr.mat.mask,Option.bind_some];dsimp only;rw [ap1 (by omega),Option.bind_some,zmx hk _ hr.mat.bits,Option.bind_some];dsimp only;rw [ap1 (by omega),Option.bind_some,(zsg (by omega) (zn4 hr.len)).2,Option.bind_some];dsimp only;rw [ap1 (by omega),Option.bind_some];have e2:=yg9 hk t (j:Int) t[j] (zfi hj) hr (acc++zc2 [t[j].prio,t[j].step]++zc2 t[j].mat.mask.l++zc2 t[j].mat.bits.l++encI (t[j].outs.length:Int)) (by simp only [List.length_append];omega);rw [List.length_append (bs:=t[j].outs.flatMap encO)] at e2;rw [show acc.length+(zc2 [t[j].prio,t[j].step]).length+(zc2 t[j].mat.mask.l).length+(zc2 t[j].mat.bits.l).length+(encI (t[j].outs.length:Int)).length=(acc++zc2 [t[j].prio,t[j].step]++zc2 t[j].mat.mask.l++zc2 t[j].mat.bits.l++encI (t[j].outs.length:Int)).length from by simp only [List.length_append]];dsimp only;rw [e2,Option.bind_some,Option.bind_some];dsimp only;congr 1
    · unfold encR;simp only [List.append_assoc]
    · rw [e1];simp only [List.length_append];omega) (fun m acc n=>by rw [zce,if_neg (by omega)]) k 0 (encI (t.length:Int)) _ (Nat.zero_le _) (by omega) rfl (by rw [zdf];omega)
  rw [zdf] at this;dsimp only;change zce k t k 0 _ _=_ at this;rw [this,Option.bind_some,if_pos rfl];rfl
end
end
section
open Go Go.RowKit WM
set_option maxRecDepth 100000
abbrev Ps (α:Type):=List UInt8→Except Int (α×Nat)
def zo9 {α β:Type} (p:Ps α) (q:Ps β):Ps (α×β):=fun l=>match p l with
  |.error e=>.error e
  |.ok (x,u)=>match q (l.drop u) with
    |.error e=>.error e
    |.ok (y,v)=>.ok ((x,y),u+v)
def mapP {α β:Type} (f:α→β) (p:Ps α):Ps β:=fun l=>match p l with
  |.error e=>.error e
  |.ok (x,u)=>.ok (f x,u)
def pIs (m:Nat):Ps (List Int):=fun l=>match getL dec 1 l with
  |.error e=>.error e
  |.ok (xs,u)=>if xs.length=m then .ok (xs,u) else .error 6
def pC (most:Nat):Ps Nat:=fun l=>match dec l with
  |.error e=>.error e
  |.ok (n,u)=>if n<0 then .error 6 else if (most:Int)<n then .error 2 else .ok (n.toNat,u)
def pCnt {α:Type} (most:Nat) (p:Ps α):Ps (List α):=fun l=>match pC most l with
  |.error e=>.error e
  |.ok (n,u)=>match many p n (l.drop u) with
    |.error e=>.error e
    |.ok (xs,v)=>.ok (xs,u+v)
def pH:Ps (Ar 10):=mapP (cpL (zA 10)) (pIs 10)
def pA:Ps Alt:=mapP (fun x=>⟨x.1,⟨x.2.1,x.2.2⟩⟩) (zo9 dec (zo9 pH pH))
def pO:Ps (List Alt):=pCnt 8 pA
def pR:Ps Rule:=mapP (fun x=>⟨gx x.1 0,⟨x.2.1,x.2.2.1⟩,gx x.1 1,x.2.2.2⟩) (zo9 (pIs 2) (zo9 pH (zo9 pH (pCnt 16 pO))))
def pT (l:List UInt8):Except Int (List Rule):=match pCnt 4000 pR l with
  |.error e=>.error e
  |.ok (t,u)=>if u<l.length then .error 6 else .ok t
abbrev Fs (α:Type):=List Int→Int→Option (α×List Int×Int)
structure Rdr {α:Type} (F:Fs α) (p:Ps α) (Z:α→Prop):Prop where
  ok:∀ l x u,l.length≤1000000→p l=.ok (x,u)→F (bvi l) 0=some (x,bvi (l.drop u),0)∧Z x
  err:∀ l e,l.length≤1000000→p l=.error e→e≠0∧∃ v l',F (bvi l) 0=some (v,bvi l',e)∧l'.length≤1000000∧Z v
  stay:∀ l e,l.length≤1000000→e≠0→∃ v l',F (bvi l) e=some (v,bvi l',e)∧l'.length≤1000000∧Z v
def seqF {α β:Type} (F:Fs α) (G:Fs β):Fs (α×β):=fun x e=>(F x e).bind fun r=>(G r.2.1 r.2.2).bind fun s=>some ((r.1,s.1),s.2.1,s.2.2)
def mapF {α β:Type} (f:α→β) (F:Fs α):Fs β:=fun x e=>(F x e).bind fun r=>some (f r.1,r.2.1,r.2.2)
theorem zhg {l:List UInt8} {u:Nat} (h:l.length≤1000000):(l.drop u).length≤1000000:=by rw [List.length_drop];omega
theorem zjz (l:List UInt8) (u:Nat):(bvi l).drop u=bvi (l.drop u):=by unfold bvi;rw [List.map_drop]
section
variable {α β:Type} {F:Fs α} {G:Fs β} {p:Ps α} {q:Ps β} {Z:α→Prop} {Y:β→Prop}
theorem Rdr.seq (hF:Rdr F p Z) (hG:Rdr G q Y):Rdr (seqF F G) (zo9 p q) (fun v=>Z v.1∧Y v.2) where
  ok:=fun l x u hl hp=>by
    unfold zo9 at hp;split at hp
    · cases hp
    · rename_i x1 u1 h1;split at hp
      · cases hp
      · rename_i y v h2;cases hp;obtain ⟨a1,a2⟩:=hF.ok l _ _ hl h1;obtain ⟨b1,b2⟩:=hG.ok _ _ _ (zhg hl) h2;refine ⟨?_,a2,b2⟩;unfold seqF;rw [a1,Option.bind_some];dsimp only;rw [b1,Option.bind_some,List.drop_drop]
  err:=fun l e hl hp=>by
    unfold zo9 at hp;split at hp
    · rename_i h1;cases hp;obtain ⟨a0,v,l',a1,a2,a3⟩:=hF.err l _ hl h1;obtain ⟨w,l2,b1,b2,b3⟩:=hG.stay l' _ a2 a0;refine ⟨a0,(v,w),l2,?_,b2,a3,b3⟩;unfold seqF;rw [a1,Option.bind_some];dsimp only;rw [b1,Option.bind_some]
    · rename_i x1 u1 h1;obtain ⟨a1,a2⟩:=hF.ok l _ _ hl h1;split at hp
      · rename_i h2;cases hp;obtain ⟨b0,w,l2,b1,b2,b3⟩:=hG.err _ _ (zhg hl) h2;refine ⟨b0,(x1,w),l2,?_,b2,a2,b3⟩;unfold seqF;rw [a1,Option.bind_some];dsimp only;rw [b1,Option.bind_some]
      · cases hp
  stay:=fun l e hl he=>by
    obtain ⟨v,l',a1,a2,a3⟩:=hF.stay l e hl he;obtain ⟨w,l2,b1,b2,b3⟩:=hG.stay l' e a2 he;refine ⟨(v,w),l2,?_,b2,a3,b3⟩;unfold seqF;rw [a1,Option.bind_some];dsimp only;rw [b1,Option.bind_some]
theorem Rdr.map (hF:Rdr F p Z) (f:α→β):Rdr (mapF f F) (mapP f p) (fun _=>True) where
  ok:=fun l x u hl hp=>by
    unfold mapP at hp;split at hp
    · cases hp
    · rename_i x1 u1 h1;cases hp;unfold mapF;rw [(hF.ok l _ _ hl h1).1];exact ⟨rfl,trivial⟩
  err:=fun l e hl hp=>by
    unfold mapP at hp;split at hp
    · rename_i h1;cases hp;obtain ⟨a0,v,l',a1,a2,a3⟩:=hF.err l _ hl h1;exact ⟨a0,f v,l',by unfold mapF;rw [a1];rfl,a2,trivial⟩
    · cases hp
  stay:=fun l e hl he=>by
    obtain ⟨v,l',a1,a2,a3⟩:=hF.stay l e hl he;exact ⟨f v,l',by unfold mapF;rw [a1];rfl,a2,trivial⟩
theorem Rdr.to {F':Fs α} (hF:Rdr F p Z) (h:∀ x e,F' x e=F x e):Rdr F' p Z:=by
  have:F'=F:=funext fun x=>funext fun e=>h x e;rw [this];exact hF
theorem Rdr.any (hF:Rdr F p Z):Rdr F p (fun _=>True):=⟨fun l x u h k=>⟨(hF.ok l x u h k).1,trivial⟩,fun l e h k=>by obtain ⟨a,v,l',b,c,_⟩:=hF.err l e h k;exact ⟨a,v,l',b,c,trivial⟩,fun l e h k=>by obtain ⟨v,l',b,c,_⟩:=hF.stay l e h k;exact ⟨v,l',b,c,trivial⟩⟩
theorem yak {L:Nat→Int→List Int→Int→List α→Nat→Option (List Int×Int×List α×Nat)} (hF:Rdr F p Z) {N0:Nat}
    (hs:∀ m (r:Nat) x acc n,n≤5000→r+1≤N0→L (m+1) ((r+1:Nat):Int) x 0 acc n=(F x 0).bind fun rb=>L m (r:Int) rb.2.1 rb.2.2 (acc++[rb.1]) (n+1))
    (hz:∀ m x acc n,L (m+1) 0 x 0 acc n=some (x,0,acc,n)) (he:∀ m r x e acc n,e≠0→L (m+1) r x e acc n=some (x,e,acc,n)) :
    ∀ (r m:Nat) (l:List UInt8) (acc:List α) (n:Nat),r≤N0→r<m→l.length≤1000000→acc.length=n→n+r≤5000 →
      (∀ xs v,many p r l=.ok (xs,v)→L m (r:Int) (bvi l) 0 acc n=some (bvi (l.drop v),0,acc++xs,(acc++xs).length))∧(∀ e,many p r l=.error e→e≠0∧∃ l' acc',L m (r:Int) (bvi l) 0 acc n=some (bvi l',e,acc',acc'.length)∧l'.length≤1000000):=by
  intro r
  induction r with
  |zero =>
    intro m l acc n h0 h1 h2 h3 h4;obtain ⟨m,rfl⟩:∃ j,m=j+1:=⟨m - 1,by omega⟩;refine ⟨fun xs v h=>?_,(fun e h=>by simp [many] at h)⟩;simp only [many,Except.ok.injEq,Prod.mk.injEq] at h;obtain ⟨rfl,rfl⟩:=h;rw [show ((0:Nat):Int)=0 from rfl,hz,List.drop_zero,List.append_nil,h3]
  |succ r ih =>
    intro m l acc n h0 h1 h2 h3 h4;obtain ⟨m,rfl⟩:∃ j,m=j+1:=⟨m - 1,by omega⟩;rw [hs m r _ acc n (by omega) h0]
    cases hp:p l with
    |error e =>
      obtain ⟨a0,v,l',a1,a2,a3⟩:=hF.err l e h2 hp;refine ⟨(fun xs v h=>by rw [many,hp] at h;cases h),fun e' h=>?_⟩;rw [many,hp] at h;cases h;obtain ⟨m,rfl⟩:∃ j,m=j+1:=⟨m - 1,by omega⟩;refine ⟨a0,l',acc++[v],?_,a2⟩;rw [a1,Option.bind_some];dsimp only;rw [he _ _ _ _ _ _ a0,List.length_append,h3];rfl
    |ok xu =>
      obtain ⟨x,u⟩:=xu;obtain ⟨a1,a2⟩:=hF.ok l x u h2 hp;obtain ⟨i1,i2⟩:=ih m (l.drop u) (acc++[x]) (n+1) (by omega) (by omega) (zhg h2) (by rw [List.length_append,h3];rfl) (by omega);rw [a1,Option.bind_some];dsimp only;refine ⟨fun xs v h=>?_,fun e' h=>?_⟩
      · rw [many,hp] at h;simp only at h;split at h
        · cases h
        · rename_i xs' v' h';cases h;rw [i1 _ _ h',List.drop_drop,List.append_assoc];rfl
      · rw [many,hp] at h;simp only at h;split at h
        · rename_i h';cases h;exact i2 _ h'
        · cases h
theorem yhd {most:Nat} {l:List UInt8} {n u:Nat} (h:pC most l=.ok (n,u)):n≤most:=by
  unfold pC at h;split at h
  · cases h
  · split at h
    · cases h
    · split at h
      · cases h
      · cases h;omega
theorem Rdr.cnt {C : Fs Int} {H : Fs (List α)} {k most : Nat} (hC : Rdr C (mapP (fun n : Nat => (n : Int)) (pC most)) (fun _ => True)) (hm : most ≤ 4000) (hk : big ≤ k)
    {L:Int→Nat→Int→List Int→Int→List α→Nat→Option (List Int×Int×List α×Nat)} (hF:Rdr F p Z)
    (hs:∀ (N:Nat) m (r:Nat) x acc n,n≤5000→r+1≤N→N≤4000→L (N:Int) (m+1) ((r+1:Nat):Int) x 0 acc n=(F x 0).bind fun rb=>L (N:Int) m (r:Int) rb.2.1 rb.2.2 (acc++[rb.1]) (n+1))
    (hz:∀ (N:Nat) m x acc n,N≤4000→L (N:Int) (m+1) 0 x 0 acc n=some (x,0,acc,n)) (he:∀ N m r x e acc n,e≠0→L N (m+1) r x e acc n=some (x,e,acc,n))
    (hH:∀ x e,H x e=(C x e).bind fun rb=>(L rb.1 k rb.1 rb.2.1 rb.2.2 [] 0).bind fun s=>if s.2.2.1.length=s.2.2.2 then some (s.2.2.1,s.1,s.2.1) else none):Rdr H (pCnt most p) (fun _=>True) where
  ok:=fun l x u hl hp=>by
    unfold pCnt at hp;split at hp
    · cases hp
    · rename_i n u1 h1;split at hp
      · cases hp
      · rename_i xs v h2;cases hp;have hn:=yhd h1;obtain ⟨a1,_⟩:=hC.ok l (n:Int) u1 hl (by unfold mapP;rw [h1]);have:=(yak (L:=L (n:Int)) (N0:=n) hF (fun m r x acc n' q1 q2=>hs n m r x acc n' q1 q2 (by omega)) (fun m x acc n'=>hz n m x acc n' (by omega)) (fun m r x e acc n'=>he _ m r x e acc n') n k (l.drop u1) [] 0 (Nat.le_refl _) (by simp only [big] at hk;omega) (zhg hl) rfl (by omega)).1 _ _ h2;refine ⟨?_,trivial⟩;rw [hH,a1,Option.bind_some];dsimp only;rw [this,Option.bind_some,if_pos rfl,List.nil_append,List.drop_drop]
  err:=fun l e hl hp=>by
    unfold pCnt at hp;split at hp
    · rename_i h1;cases hp;obtain ⟨a0,v,l',a1,a2,_⟩:=hC.err l e hl (by unfold mapP;rw [h1]);refine ⟨a0,[],l',?_,a2,trivial⟩;obtain ⟨k,rfl⟩:∃ j,k=j+1:=⟨k - 1,by simp only [big] at hk;omega⟩;rw [hH,a1,Option.bind_some];dsimp only;rw [he _ _ _ _ _ _ _ a0,Option.bind_some];exact if_pos rfl
    · rename_i n u1 h1;split at hp
      · rename_i h2;cases hp;have hn:=yhd h1;obtain ⟨a1,_⟩:=hC.ok l (n:Int) u1 hl (by unfold mapP;rw [h1]);obtain ⟨b0,l',acc',b1,b2⟩:=(yak (L:=L (n:Int)) (N0:=n) hF (fun m r x acc n' q1 q2=>hs n m r x acc n' q1 q2 (by omega)) (fun m x acc n'=>hz n m x acc n' (by omega)) (fun m r x e acc n'=>he _ m r x e acc n') n k (l.drop u1) [] 0 (Nat.le_refl _) (by simp only [big] at hk;omega) (zhg hl) rfl (by omega)).2 _ h2;refine ⟨b0,acc',l',?_,b2,trivial⟩;rw [hH,a1,Option.bind_some];dsimp only;rw [b1,Option.bind_some,if_pos rfl]
      · cases hp
  stay:=fun l e hl h0=>by
    obtain ⟨v,l',a1,a2,_⟩:=hC.stay l e hl h0;obtain ⟨k,rfl⟩:∃ j,k=j+1:=⟨k - 1,by simp only [big] at hk;omega⟩;refine ⟨[],l',?_,a2,trivial⟩;rw [hH,a1,Option.bind_some];dsimp only;rw [he _ _ _ _ _ _ _ h0,Option.bind_some];exact if_pos rfl
end
/-! lists of numbers -/
def resL:Except Int (List Int×Nat)→List Int×Int×Int
  |.ok (xs,u)=>(xs,(u:Int),0)
  |.error e=>([],0,e)
def resN:Except Int (Nat×Nat)→Int×Int×Int
  |.ok (n,u)=>((n:Int),(u:Int),0)
  |.error e=>(0,0,e)
section
variable {k:Nat}
theorem wget {k:Nat} (hk:big≤k) (l:List UInt8) (hl:l.length≤1000000):zbh k (bvi l)=some (resD (dec l))∧zej k (bvi l)=some (resD (dec l)):=by
  obtain ⟨k,rfl⟩:∃ j,k=j+20:=⟨k - 20,by simp only [big] at hk;omega⟩;exact ⟨ygo k l hl,yg6 k l hl⟩
theorem zrb (hk:big≤k) (l:List UInt8) (hl:l.length≤1000000):zio k (bvi l) 1=some (resN (lenD l 1))∧zjl k (bvi l) 1=some (resN (lenD l 1)):=by
  have core:∀ f:Option (Int×Int×Int),f=some (resD (dec l))→(f.bind fun r=>(if r.2.2≠0 then some (0,0,r.2.2) else (if r.1<0 then some (0,0,6) else (if (0:Int)≤(IntKind.i64.wrap (((bvi l).length:Int) - r.2.1))∧(0:Int)<1 then (if (IntKind.i64.wrap ((IntKind.i64.wrap (((bvi l).length:Int) - r.2.1)) / 1))<r.1 then some (0,0,5) else some (r.1,r.2.1,0)) else none))))=some (resN (lenD l 1)):=by
    rintro f rfl;rw [Option.bind_some];unfold lenD
    cases hd:dec l with
    |error e =>
      have:=zoa hd;unfold resD resN;dsimp only;rw [if_pos (by omega)]
    |ok nu =>
      obtain ⟨n,u⟩:=nu;obtain ⟨_,_,hu,_,n1,n2⟩:=zgq hd;unfold resD;dsimp only;rw [if_neg (by simp),zd3,wi (x:=(l.length:Int) - (u:Int)) (by omega)];by_cases c:n<0
      · rw [if_pos c,if_pos c];rfl
      · rw [if_neg c,if_neg c,if_pos (by omega),Int.ediv_one,wi (by omega)];by_cases c2:(l.length - u) / 1<n.toNat
        · rw [if_pos c2,if_pos (by omega)];rfl
        · rw [if_neg c2,if_neg (by omega)];unfold resN;dsimp only;rw [show ((n.toNat:Nat):Int)=n by omega]
  exact ⟨core _ (wget hk l hl).1,core _ (wget hk l hl).2⟩
theorem zx9 {L:Nat→Int→Int→List Int→Nat→Option ((List Int×Int×Int) ⊕ (Int×List Int×Nat))} {N:Nat} {l:List UInt8} (hl:l.length≤1000000)
    (hs:∀ m (at_ i:Int) acc n,L (m+1) at_ i acc n=(if i<(N:Int) then (if (0:Int)≤at_∧at_≤((bvi l).length:Int) then ((zbh k ((bvi l).drop at_.toNat)).bind fun r=>(if r.2.2≠0 then some (.inl ([],0,r.2.2)) else (if (n+1)*9≤1000000000 then L m (IntKind.i64.wrap (at_+r.2.1)) (IntKind.i64.wrap (i+1)) (acc++[r.1]) (n+1) else none))) else none) else some (.inr (at_,acc,n)))) (hk:big≤k) :
    ∀ (r m a i:Nat) (acc:List Int) (n:Nat),i+r=N→r<m→a≤l.length→acc.length=n→n+r≤1000000→N≤1000000 →
      L m (a:Int) (i:Int) acc n=some (match many dec r (l.drop a) with|.ok (xs,v)=>.inr (((a+v:Nat):Int),acc++xs,(acc++xs).length)|.error e=>.inl ([],0,e)):=by
  intro r
  induction r with
  |zero =>
    intro m a i acc n h1 h2 h3 h4 h5 h6;obtain ⟨m,rfl⟩:∃ j,m=j+1:=⟨m - 1,by omega⟩;rw [hs,if_neg (by omega),many];dsimp only;rw [List.append_nil,h4];rfl
  |succ r ih =>
    intro m a i acc n h1 h2 h3 h4 h5 h6;obtain ⟨m,rfl⟩:∃ j,m=j+1:=⟨m - 1,by omega⟩;rw [hs,if_pos (by omega),if_pos (by rw [zd3];omega),show ((a:Int)).toNat=a by omega,zjz,(wget hk _ (zhg hl)).1,Option.bind_some,many]
    cases hd:dec (l.drop a) with
    |error e =>
      have:=zoa hd;unfold resD;dsimp only;rw [if_pos (by omega)]
    |ok nu =>
      obtain ⟨x,u⟩:=nu;obtain ⟨_,_,hu,hu0,_,_⟩:=zgq hd;rw [List.length_drop] at hu;unfold resD;dsimp only;rw [if_neg (by simp),if_pos (by omega),wi (x:=(a:Int)+(u:Int)) (by omega),show (a:Int)+(u:Int)=((a+u:Nat):Int) by omega,zp3 i (by omega),ih m (a+u) (i+1) (acc++[x]) (n+1) (by omega) (by omega) (by omega) (by rw [List.length_append,h4];rfl) (by omega) h6,List.drop_drop]
      cases many dec r (l.drop (a+u)) with
      |error e=>rfl
      |ok q =>
        obtain ⟨xs,v⟩:=q;dsimp only;rw [List.append_assoc,Nat.add_assoc];rfl
theorem zf8 (hk:big≤k) (l:List UInt8) (hl:l.length≤1000000):zgd k (bvi l)=some (resL (getL dec 1 l))∧zhl k (bvi l)=some (resL (getL dec 1 l)):=by
  have hk':9223372036854775808≤k:=hk;constructor
  · unfold zgd zgb;rw [(zrb hk l hl).1,Option.bind_some];unfold getL
    cases hd:lenD l 1 with
    |error e =>
      have:=zvo hd;unfold resN;dsimp only;rw [if_pos (by omega)];rfl
    |ok nu =>
      obtain ⟨n,u⟩:=nu;obtain ⟨_,h1,h2,_⟩:=z0k hd;unfold resN;dsimp only;have:=zx9 (k:=k) (L:=zbg k (bvi l) ((n:Int),(u:Int),0)) (N:=n) hl (fun m a i acc c=>by rw [zbg]) hk n k u 0 [] 0 (by omega) (by omega) h2 rfl (by omega) (by omega);change zbg k (bvi l) ((n:Int),(u:Int),0) k (u:Int) 0 [] 0=_ at this;rw [if_neg (by simp),this,Option.bind_some]
      cases many dec n (l.drop u) with
      |error e=>rfl
      |ok q =>
        obtain ⟨xs,v⟩:=q;dsimp only;rw [Sum.elim_inr];dsimp only;rw [if_pos rfl,List.nil_append];rfl
  · unfold zhl;rw [(zrb hk l hl).2,Option.bind_some];unfold getL
    cases hd:lenD l 1 with
    |error e =>
      have:=zvo hd;unfold resN;dsimp only;rw [if_pos (by omega)];rfl
    |ok nu =>
      obtain ⟨n,u⟩:=nu;obtain ⟨_,h1,h2,_⟩:=z0k hd;unfold resN;dsimp only;have heq:∀ a:Nat,zej k ((bvi l).drop a)=zbh k ((bvi l).drop a):=fun a=>by rw [zjz,(wget hk _ (zhg hl)).1,(wget hk _ (zhg hl)).2]
      have:=zx9 (k:=k) (L:=zcm k (bvi l) ((n:Int),(u:Int),0)) (N:=n) hl (fun m a i acc c=>by rw [zcm,heq]) hk n k u 0 [] 0 (by omega) (by omega) h2 rfl (by omega) (by omega);change zcm k (bvi l) ((n:Int),(u:Int),0) k (u:Int) 0 [] 0=_ at this;rw [if_neg (by simp),this,Option.bind_some]
      cases many dec n (l.drop u) with
      |error e=>rfl
      |ok q =>
        obtain ⟨xs,v⟩:=q;dsimp only;rw [Sum.elim_inr];dsimp only;rw [if_pos rfl,List.nil_append];rfl
end
end
end Go.Proofs.YtjgbkegkcbcjaaaGreat
