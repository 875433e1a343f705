/- Part 10 of the proof of TableEqualIsExact (several texts in one; no further condition). -/
import Derived.Test.YtjgbkegkcbcjaaaGreatZI
import Derived.Test.YtjgbkegkcbcjaaaGreatZH
import Derived.Test.YtjgbkegkcbcjaaaGreatZF
set_option linter.unusedSimpArgs false
set_option linter.unusedVariables false
set_option linter.unusedSectionVars false
namespace Go.Proofs.YtjgbkegkcbcjaaaGreat
section
open Go Go.RowKit
set_option maxRecDepth 100000
def za2 (k:Nat) (t:List Rule) (k_:Int):Nat→Int→(List Pat)→Option (List Pat)
 |0,_,_=>none
 |m+1,i,l=>(if i<(k_.toNat:Int) then (if (0:Int)≤i∧i<(t.length:Int) then (if (0:Int)≤i∧i<(k_.toNat:Int) then (if i.toNat<l.length then za2 k t k_ m (IntKind.i64.wrap (i+1)) (l.set i.toNat ((gx t i).mat)) else none) else none) else none) else some l)
def zcp (k:Nat) (t:List Rule) (k_:Int):Option (List Pat×Nat):=(if (0:Int)≤k_∧k_.toNat*161≤1000000000 then ((za2 k t k_ k 0 (List.replicate k_.toNat (⟨(zA 10),(zA 10)⟩:Pat)):Option (List Pat)).bind fun s_=>some (s_,k_.toNat)) else none)
set_option maxHeartbeats 8000000 in
theorem zgo (ax:Axs) (hx:zbx ax) (k:Nat) (t:List Rule) (k_:Int) (v:List Pat×Nat) (H:zcp k t k_=some v):Call Tryz.prog (EE ax) [] 68 [zao t,.int .i64 k_] (stL []) (tupT [.arr 0 20 0 v.2 v.2 (v.2*20)]) (stL [.cells false (v.2*20) (vecC ePat v.1)]):=by
 rw [zcp] at H;refine enBr [.tmp 4] 24 [0,1] (hx.no _ (by decide)) (fn68 ax) ?_;intro h hh;repeat apply TW.seq
 refine rk [0,1] [] hh ?_;clear hh h;intro h hh;obtain ⟨g1,H⟩:=isg H;repeat apply TW.seq
 refine rk [0,5] [] (f3 hh (z4t (k_.toNat)) (f2 ((show (vecC ePat (List.replicate k_.toNat (⟨(zA 10),(zA 10)⟩:Pat))).length=k_.toNat*20 from by rw [zc7 (fun x=>zbb x),List.length_replicate])) (zoz ax))) ?_;clear hh h;intro h hh;repeat apply TW.seq
 refine rk [0,5,10,11] [] (f2 hh (ziw ax)) ?_;clear hh h;intro h hh;obtain ⟨s_,H1,H⟩:=zad H;repeat apply TW.seq
 refine cu [5] 1 (fun h bs=>(h 5=.arr 0 20 0 k_.toNat k_.toNat (k_.toNat*20))∧bs=[.cells true (k_.toNat*20) (vecC ePat s_)]) ?_ ?_
 ·skip;repeat apply TW.seq
  apply TW.block;repeat apply TW.seq
  refine TW.loopT [0,5,10,11] (fun m h bs=>∃ (i:Int) (l:List Pat),za2 k t k_ m i l=some s_∧(h 0=zao t∧h 5=.arr 0 20 0 k_.toNat k_.toNat (k_.toNat*20)∧h 10=.int .i64 (k_.toNat:Int)∧h 11=.int .i64 i)∧bs=[.cells true (k_.toNat*20) (vecC ePat l)]) ?_ k _ _ ?_;rotate_left
  ·exact ⟨0,(List.replicate k_.toNat (⟨(zA 10),(zA 10)⟩:Pat)),H1,kq hh,rfl⟩
  clear hh h H1;rintro m h bs ⟨i,l,H1,hh,rfl⟩;rcases m with _|m
  ·rw [za2] at H1;cases H1
  rw [za2] at H1;repeat apply TW.seq
  refine rk [0,5,10,11,12] [] hh ?_;clear hh h;intro h hh;rcases isp H1 with ⟨c2,H1⟩|⟨c2,H1⟩;rotate_left
  ·skip;repeat apply TW.seq
   refine cf (f2 hh (decide_eq_false c2)) ?_;refine xk ?_;cases H1;exact ce hh ⟨kq hh,rfl⟩
  repeat apply TW.seq
  refine ct (f2 hh (decide_eq_true c2)) ?_;repeat apply TW.seq
  refine sk ?_;repeat apply TW.seq
  apply TW.block;repeat apply TW.seq
  refine rk [0,5,6,10,11] [] hh ?_;clear hh h;intro h hh;obtain ⟨g3,H1⟩:=isg H1;obtain ⟨g4,H1⟩:=isg H1;obtain ⟨g5,H1⟩:=isg H1;repeat apply TW.seq
  refine rk [0,5,10,11] [] (f3 hh (zal g3) (f3 (show spl (vecC ePat l) (i.toNat*20) ((((gx t i).mat).mask).l.map (T.int .i64)++((((gx t i).mat).bits).l.map (T.int .i64)))=_ from z31 ePat 20 ((gx t i).mat) (fun x=>zbb x) g5) (ziw ax) (z7e ax))) ?_;clear hh h;intro h hh;repeat apply TW.seq
  refine rk [0,5,10,11] [] hh ?_;clear hh h;intro h hh;exact rd m hh ⟨(IntKind.i64.wrap (i+1)),(l.set i.toNat ((gx t i).mat)),H1,kq hh,rfl⟩
 clear hh h;rintro h bs ⟨hh,rfl⟩;repeat apply TW.seq
 refine rk [4] [] hh ?_;clear hh h;intro h hh;refine uz 0 ?_;cases H;exact rtB hh
def zey (k:Nat) (h_:Ar 10) (x0:Bool) (x1:Ar 10):Option (Bool×Ar 10):=(if x0=true then ((zcu k h_ x1).bind fun rCompareHeads=>(if rCompareHeads<0 then some (true,h_) else some (true,x1))) else some (true,h_))
set_option maxHeartbeats 8000000 in
theorem zni (ax:Axs) (hx:zbx ax) (k:Nat) (h_:Ar 10) (x0:Bool) (x1:Ar 10) (v:Bool×Ar 10) (H:zey k h_ x0 x1=some v):Call Tryz.prog (EE ax) [] 74 [.agg (h_.l.map (T.int .i64)),.ptr 0 0 1,.ptr 1 0 10] (stL [.cells true 1 [.bool x0],.cells true 10 (x1.l.map (T.int .i64))]) (tupT []) (stL [.cells true 1 [.bool v.1],.cells true 10 (v.2.l.map (T.int .i64))]):=by
 rw [zey] at H;refine enB [] 13 [0,1,2] (hx.no _ (by decide)) (fn74 ax) ?_;intro h hh;repeat apply TW.seq
 refine rk [1,2,3] [] hh ?_;clear hh h;intro h hh;rcases isb H with ⟨c1,H⟩|⟨c1,H⟩;rotate_left
 ·skip;repeat apply TW.seq
  refine rk [1,2,3,11] [] (f2 hh c1) ?_;clear hh h;intro h hh;repeat apply TW.seq
  refine ct hh ?_;repeat apply TW.seq
  refine rk [] [] (f2 hh c1) ?_;clear hh h;intro h hh;cases H;exact rnB hh
 obtain ⟨rCompareHeads,e2,H⟩:=zad H;repeat apply TW.seq
 refine rkc [1,2,3,11] [] [(.int .i64 rCompareHeads,stL [.cells true 1 [.bool x0],.cells true 10 (x1.l.map (T.int .i64)),.cells true 10 (h_.l.map (T.int .i64))])] (f2 hh c1) ?_ ?_
 ·exact ⟨zaj.call (Pure.clr (zfi ax hx k h_ x1 rCompareHeads e2 ) (by first|rfl|simp only [c1])),trivial⟩
 clear hh h;intro h hh;rcases isp H with ⟨c3,H⟩|⟨c3,H⟩;rotate_left
 ·skip;repeat apply TW.seq
  refine cf (f2 hh (decide_eq_false c3)) ?_;repeat apply TW.seq
  refine sk ?_;cases H;exact rnB hh
 repeat apply TW.seq
 refine ct (f2 hh (decide_eq_true c3)) ?_;repeat apply TW.seq
 refine rk [] [] (f2 hh c1) ?_;clear hh h;intro h hh;cases H;exact rnB hh
def zbj (k:Nat) (t:List Rule) (u:List Rule) (i:Int):Nat→Int→(Ar 10)→Bool→Option (Ar 10×Bool)
 |0,_,_,_=>none
 |m+1,i2,x3,x4=>(if i2<((u++[(⟨0,(⟨(zA 10),(zA 10)⟩:Pat),(-1),[]⟩:Rule)]).length:Int) then (if (0:Int)≤i2∧i2<((u++[(⟨0,(⟨(zA 10),(zA 10)⟩:Pat),(-1),[]⟩:Rule)]).length:Int) then ((zgp k (⟨(gx (t++[(⟨0,(⟨(zA 10),(zA 10)⟩:Pat),(-1),[]⟩:Rule)]) i).prio,((gx (t++[(⟨0,(⟨(zA 10),(zA 10)⟩:Pat),(-1),[]⟩:Rule)]) i).mat),(gx (t++[(⟨0,(⟨(zA 10),(zA 10)⟩:Pat),(-1),[]⟩:Rule)]) i).step,(gx (t++[(⟨0,(⟨(zA 10),(zA 10)⟩:Pat),(-1),[]⟩:Rule)]) i).outs⟩:Rule) (⟨(gx (u++[(⟨0,(⟨(zA 10),(zA 10)⟩:Pat),(-1),[]⟩:Rule)]) i2).prio,((gx (u++[(⟨0,(⟨(zA 10),(zA 10)⟩:Pat),(-1),[]⟩:Rule)]) i2).mat),(gx (u++[(⟨0,(⟨(zA 10),(zA 10)⟩:Pat),(-1),[]⟩:Rule)]) i2).step,(gx (u++[(⟨0,(⟨(zA 10),(zA 10)⟩:Pat),(-1),[]⟩:Rule)]) i2).outs⟩:Rule)).bind fun ralike=>(if ralike=true then zbj k t u i m (IntKind.i64.wrap (i2+1)) x3 x4 else ((zkb k ((gx (t++[(⟨0,(⟨(zA 10),(zA 10)⟩:Pat),(-1),[]⟩:Rule)]) i).mat) ((gx (u++[(⟨0,(⟨(zA 10),(zA 10)⟩:Pat),(-1),[]⟩:Rule)]) i2).mat)).bind fun rAnd=>(if rAnd.2=true then ((((zcp k (t++[(⟨0,(⟨(zA 10),(zA 10)⟩:Pat),(-1),[]⟩:Rule)]) i).bind fun rb=>((zci k (u++[(⟨0,(⟨(zA 10),(zA 10)⟩:Pat),(-1),[]⟩:Rule)]) i2).bind fun rbefore=>(if (rb.2+rbefore.length)*161≤1000000000 then (if rbefore.length=0 then (if rb.1.length=rb.2 then ((zds k rAnd.1 rb.1).bind fun rOutside=>some (rOutside.2,rb.1,rb.2,rOutside.1)) else none) else (if (rb.1++rbefore).length=rb.2+rbefore.length then ((zds k rAnd.1 (rb.1++rbefore)).bind fun rOutside2=>some (rOutside2.2,rb.1++rbefore,rb.2+rbefore.length,rOutside2.1)) else none)) else none))):Option (Bool×List Pat×Nat×Ar 10)).bind fun s_4=>(if s_4.1=true then ((zey k s_4.2.2.2 x4 x3).bind fun rb2=>zbj k t u i m (IntKind.i64.wrap (i2+1)) rb2.2 rb2.1) else zbj k t u i m (IntKind.i64.wrap (i2+1)) x3 x4)) else zbj k t u i m (IntKind.i64.wrap (i2+1)) x3 x4)))) else none) else some (x3,x4))
def zcq (k:Nat) (t:List Rule) (u:List Rule):Nat→Int→(Ar 10)→Bool→Option (Ar 10×Bool)
 |0,_,_,_=>none
 |m+1,i,x,x2=>(if i<((t++[(⟨0,(⟨(zA 10),(zA 10)⟩:Pat),(-1),[]⟩:Rule)]).length:Int) then (((if (0:Int)≤i∧i<((t++[(⟨0,(⟨(zA 10),(zA 10)⟩:Pat),(-1),[]⟩:Rule)]).length:Int) then ((zbj k t u i k 0 x x2:Option (Ar 10×Bool)).bind fun s_3=>some (s_3.1,s_3.2)) else none):Option (Ar 10×Bool)).bind fun s_2=>zcq k t u m (IntKind.i64.wrap (i+1)) s_2.1 s_2.2) else some (x,x2))
def zfd (k:Nat) (t:List Rule) (u:List Rule):Option (Ar 10×Bool):=(if t.length*201≤1000000000 then (if (t.length+1)*201≤1000000000 then (if u.length*201≤1000000000 then (if (u.length+1)*201≤1000000000 then (if (t++[(⟨0,(⟨(zA 10),(zA 10)⟩:Pat),(-1),[]⟩:Rule)]).length=t.length+1 then (if (u++[(⟨0,(⟨(zA 10),(zA 10)⟩:Pat),(-1),[]⟩:Rule)]).length=u.length+1 then ((zcq k t u k 0 (zA 10) false:Option (Ar 10×Bool)).bind fun s_=>some (s_.1,(!s_.2))) else none) else none) else none) else none) else none) else none)
set_option maxHeartbeats 8000000 in
theorem zix (ax:Axs) (hx:zbx ax) (k:Nat) (t:List Rule) (u:List Rule) (v:Ar 10×Bool) (H:zfd k t u=some v):Pure Tryz.prog (EE ax) [] 36 [zao t,zao u] (tupT [.agg (v.1.l.map (T.int .i64)),.bool v.2]):=by
 rw [zfd] at H;refine enN [.cell 4 39,.tmp 5] 85 [0,1] (hx.no _ (by decide)) (fn36 ax) ?_;intro h hh;repeat apply TW.seq
 refine rk [0,1,4] [] hh ?_;clear hh h;intro h hh;repeat apply TW.seq
 refine rk [0,1,4,6] [] hh ?_;clear hh h;intro h hh;refine nz 1 22 1 ?_;refine zk 6 1 23 true (T.int .i64 0 :: ((zA 10).l.map (T.int .i64)++((zA 10).l.map (T.int .i64)++[T.int .i64 (-1),za4 []]))) [0,1,4,6] hh ?_;clear hh h;intro h hh;obtain ⟨g1,H⟩:=isg H;obtain ⟨g2,H⟩:=isg H;obtain ⟨g3,H⟩:=isg H;obtain ⟨g4,H⟩:=isg H;repeat apply TW.seq
 refine dcg 1 [6] [] [] [(.arr 2 23 0 t.length t.length (t.length*23),stL [.cells true 10 ((zA 10).l.map (T.int .i64)),.gone,.cells false (t.length*23) (vecC zas t)]),(.arr 3 23 0 u.length u.length (u.length*23),stL [.cells true 10 ((zA 10).l.map (T.int .i64)),.gone,.cells false ((t.length+1)*23) (vecC zas (t++[(⟨0,(⟨(zA 10),(zA 10)⟩:Pat),(-1),[]⟩:Rule)])),.cells false (u.length*23) (vecC zas u)])] [.cells true 10 ((zA 10).l.map (T.int .i64)),.gone,.cells false ((t.length+1)*23) (vecC zas (t++[(⟨0,(⟨(zA 10),(zA 10)⟩:Pat),(-1),[]⟩:Rule)])),.cells false ((u.length+1)*23) (vecC zas (u++[(⟨0,(⟨(zA 10),(zA 10)⟩:Pat),(-1),[]⟩:Rule)]))] (fun h=>h 4=.ptr 0 0 10∧h 7=.arr 2 23 0 (t.length+1) (t.length+1) ((t.length+1)*23)∧h 8=.arr 3 23 0 (u.length+1) (u.length+1) ((u.length+1)*23)) (f3 hh ((show vecC zas [(⟨0,(⟨(zA 10),(zA 10)⟩:Pat),(-1),[]⟩:Rule)]=(T.int .i64 ((⟨0,(⟨(zA 10),(zA 10)⟩:Pat),(-1),[]⟩:Rule).prio) :: ((((⟨0,(⟨(zA 10),(zA 10)⟩:Pat),(-1),[]⟩:Rule).mat).mask).l.map (T.int .i64)++((((⟨0,(⟨(zA 10),(zA 10)⟩:Pat),(-1),[]⟩:Rule).mat).bits).l.map (T.int .i64)++[T.int .i64 ((⟨0,(⟨(zA 10),(zA 10)⟩:Pat),(-1),[]⟩:Rule).step),za4 ((⟨0,(⟨(zA 10),(zA 10)⟩:Pat),(-1),[]⟩:Rule).outs)]))) from zgu.trans rfl)) (f2 (el28 ax) (sr28 ax))) trivial ?_ ?_
 ·exact ⟨(by have q:=Call.fresh (zvh ax hx t g1) (by simp only [zb3,idsA,idsB,Bool.and_self]) (by simp only [zb3,idsA,idsB,Bool.and_self]) [.cells true 10 ((zA 10).l.map (T.int .i64)),.gone];first|exact q | (simp only [Nat.add_mul,Nat.one_mul,za1,(show vecC zas [(⟨0,(⟨(zA 10),(zA 10)⟩:Pat),(-1),[]⟩:Rule)]=(T.int .i64 ((⟨0,(⟨(zA 10),(zA 10)⟩:Pat),(-1),[]⟩:Rule).prio) :: ((((⟨0,(⟨(zA 10),(zA 10)⟩:Pat),(-1),[]⟩:Rule).mat).mask).l.map (T.int .i64)++((((⟨0,(⟨(zA 10),(zA 10)⟩:Pat),(-1),[]⟩:Rule).mat).bits).l.map (T.int .i64)++[T.int .i64 ((⟨0,(⟨(zA 10),(zA 10)⟩:Pat),(-1),[]⟩:Rule).step),za4 ((⟨0,(⟨(zA 10),(zA 10)⟩:Pat),(-1),[]⟩:Rule).outs)]))) from zgu.trans rfl)] at q ⊢;exact q)),(by have q:=Call.fresh (zvh ax hx u g3) (by simp only [zb3,idsA,idsB,Bool.and_self]) (by simp only [zb3,idsA,idsB,Bool.and_self]) [.cells true 10 ((zA 10).l.map (T.int .i64)),.gone,.cells false ((t.length+1)*23) (vecC zas (t++[(⟨0,(⟨(zA 10),(zA 10)⟩:Pat),(-1),[]⟩:Rule)]))];first|exact q | (simp only [Nat.add_mul,Nat.one_mul,za1,(show vecC zas [(⟨0,(⟨(zA 10),(zA 10)⟩:Pat),(-1),[]⟩:Rule)]=(T.int .i64 ((⟨0,(⟨(zA 10),(zA 10)⟩:Pat),(-1),[]⟩:Rule).prio) :: ((((⟨0,(⟨(zA 10),(zA 10)⟩:Pat),(-1),[]⟩:Rule).mat).mask).l.map (T.int .i64)++((((⟨0,(⟨(zA 10),(zA 10)⟩:Pat),(-1),[]⟩:Rule).mat).bits).l.map (T.int .i64)++[T.int .i64 ((⟨0,(⟨(zA 10),(zA 10)⟩:Pat),(-1),[]⟩:Rule).step),za4 ((⟨0,(⟨(zA 10),(zA 10)⟩:Pat),(-1),[]⟩:Rule).outs)]))) from zgu.trans rfl)] at q ⊢;exact q)),trivial⟩
 clear hh h;intro h hh;obtain ⟨g5,H⟩:=isg H;repeat apply TW.seq
 refine TW.freeze 7 (b:=2) (e:=23) (off:=0) (len:=(t.length+1)) (cap:=(t.length+1)) (M:=((t.length+1)*23)) ((t++[(⟨0,(⟨(zA 10),(zA 10)⟩:Pat),(-1),[]⟩:Rule)]).map zas) (kq hh) (by rfl) (by omega) (by omega) (by rw [List.drop_zero];exact zf7 (e:=23) (fun x=>zba x) g5) (fun t ht=>by obtain ⟨x,_,rfl⟩:=List.mem_map.1 ht;first|rfl|exact zi8 _|exact zbb _|exact zg7 _|exact zba _ | (rw [List.length_map];rfl)) (by rw [List.length_map];exact g5) (by omega) ?_;rw [zhy _ _ _ (by simp only [lzA]<;>omega)];simp only [scA];refine gk [4,7,8] hh ?_;clear hh h;intro h hh;obtain ⟨g6,H⟩:=isg H;repeat apply TW.seq
 refine TW.freeze 8 (b:=3) (e:=23) (off:=0) (len:=(u.length+1)) (cap:=(u.length+1)) (M:=((u.length+1)*23)) ((u++[(⟨0,(⟨(zA 10),(zA 10)⟩:Pat),(-1),[]⟩:Rule)]).map zas) (kq hh) (by rfl) (by omega) (by omega) (by rw [List.drop_zero];exact zf7 (e:=23) (fun x=>zba x) g6) (fun t ht=>by obtain ⟨x,_,rfl⟩:=List.mem_map.1 ht;first|rfl|exact zi8 _|exact zbb _|exact zg7 _|exact zba _ | (rw [List.length_map];rfl)) (by rw [List.length_map];exact g6) (by omega) ?_;rw [zhy _ _ _ (by simp only [lzA]<;>omega)];simp only [scA];refine gk [4,7,8] hh ?_;clear hh h;intro h hh;repeat apply TW.seq
 refine rk [4,7,8,9] [] hh ?_;clear hh h;intro h hh;repeat apply TW.seq
 refine rk [4,7,8,9,10] [] hh ?_;clear hh h;intro h hh;repeat apply TW.seq
 refine rk [4,7,8,9,10,11] [] hh ?_;clear hh h;intro h hh;repeat apply TW.seq
 refine rk [4,7,8,9,10,11,12,13] [] hh ?_;clear hh h;intro h hh;repeat apply TW.seq
 refine rk [4,8,9,10,11,12,13,38,39,40] [] (f2 hh (z7e ax)) ?_;clear hh h;intro h hh;obtain ⟨s_,H1,H⟩:=zad H;repeat apply TW.seq
 refine cu [4,9,10] 6 (fun h bs=>(h 4=.ptr 0 0 10∧h 9=.ptr 4 0 10∧h 10=.ptr 5 0 1)∧bs=[.cells true 10 ((zA 10).l.map (T.int .i64)),.gone,.gone,.gone,.cells true 10 (s_.1.l.map (T.int .i64)),.cells true 1 [.bool s_.2]]) ?_ ?_
 ·skip;repeat apply TW.seq
  apply TW.block;repeat apply TW.seq
  refine TW.loopT [4,8,9,10,11,12,13,38,39,40] (fun m h bs=>∃ (i:Int) (x:Ar 10) (x2:Bool),zcq k t u m i x x2=some s_∧(h 4=.ptr 0 0 10∧h 8=zao (u++[(⟨0,(⟨(zA 10),(zA 10)⟩:Pat),(-1),[]⟩:Rule)])∧h 9=.ptr 4 0 10∧h 10=.ptr 5 0 1∧h 11=.fn 74 [] [.ptr 5 0 1,.ptr 4 0 10]∧h 12=.fn 68 [zao (t++[(⟨0,(⟨(zA 10),(zA 10)⟩:Pat),(-1),[]⟩:Rule)])] []∧h 13=.fn 68 [zao (u++[(⟨0,(⟨(zA 10),(zA 10)⟩:Pat),(-1),[]⟩:Rule)])] []∧h 38=zao (t++[(⟨0,(⟨(zA 10),(zA 10)⟩:Pat),(-1),[]⟩:Rule)])∧h 39=.int .i64 ((t++[(⟨0,(⟨(zA 10),(zA 10)⟩:Pat),(-1),[]⟩:Rule)]).length:Int)∧h 40=.int .i64 i)∧bs=[.cells true 10 ((zA 10).l.map (T.int .i64)),.gone,.gone,.gone,.cells true 10 (x.l.map (T.int .i64)),.cells true 1 [.bool x2]]) ?_ k _ _ ?_;rotate_left
  ·exact ⟨0,(zA 10),false,H1,kq hh,rfl⟩
  clear hh h H1;rintro m h bs ⟨i,x,x2,H1,hh,rfl⟩;rcases m with _|m
  ·rw [zcq] at H1;cases H1
  rw [zcq] at H1;repeat apply TW.seq
  refine rk [4,8,9,10,11,12,13,38,39,40,41] [] hh ?_;clear hh h;intro h hh;rcases isp H1 with ⟨c7,H1⟩|⟨c7,H1⟩;rotate_left
  ·skip;repeat apply TW.seq
   refine cf (f2 hh (decide_eq_false c7)) ?_;refine xk ?_;cases H1;exact ce hh ⟨kq hh,rfl⟩
  repeat apply TW.seq
  refine ct (f2 hh (decide_eq_true c7)) ?_;repeat apply TW.seq
  refine sk ?_;obtain ⟨s_2,H2,H1⟩:=zad H1;repeat apply TW.seq
  refine cu [4,8,9,10,11,12,13,38,39,40] 6 (fun h bs=>(h 4=.ptr 0 0 10∧h 8=zao (u++[(⟨0,(⟨(zA 10),(zA 10)⟩:Pat),(-1),[]⟩:Rule)])∧h 9=.ptr 4 0 10∧h 10=.ptr 5 0 1∧h 11=.fn 74 [] [.ptr 5 0 1,.ptr 4 0 10]∧h 12=.fn 68 [zao (t++[(⟨0,(⟨(zA 10),(zA 10)⟩:Pat),(-1),[]⟩:Rule)])] []∧h 13=.fn 68 [zao (u++[(⟨0,(⟨(zA 10),(zA 10)⟩:Pat),(-1),[]⟩:Rule)])] []∧h 38=zao (t++[(⟨0,(⟨(zA 10),(zA 10)⟩:Pat),(-1),[]⟩:Rule)])∧h 39=.int .i64 ((t++[(⟨0,(⟨(zA 10),(zA 10)⟩:Pat),(-1),[]⟩:Rule)]).length:Int)∧h 40=.int .i64 i)∧bs=[.cells true 10 ((zA 10).l.map (T.int .i64)),.gone,.gone,.gone,.cells true 10 (s_2.1.l.map (T.int .i64)),.cells true 1 [.bool s_2.2]]) ?_ ?_
  ·skip;repeat apply TW.seq
   apply TW.block;obtain ⟨g8,H2⟩:=isg H2;repeat apply TW.seq
   refine rk [4,8,9,10,11,12,13,14,15,38,39,40] [] (f3 hh (zal g8) (z7e ax)) ?_;clear hh h;intro h hh;repeat apply TW.seq
   refine rk [4,8,9,10,11,12,13,14,15,38,39,40,45,46,47] [] (f2 hh (z7e ax)) ?_;clear hh h;intro h hh;obtain ⟨s_3,H3,H2⟩:=zad H2;repeat apply TW.seq
   refine cu [4,8,9,10,11,12,13,38,39,40] 7 (fun h bs=>(h 4=.ptr 0 0 10∧h 8=zao (u++[(⟨0,(⟨(zA 10),(zA 10)⟩:Pat),(-1),[]⟩:Rule)])∧h 9=.ptr 4 0 10∧h 10=.ptr 5 0 1∧h 11=.fn 74 [] [.ptr 5 0 1,.ptr 4 0 10]∧h 12=.fn 68 [zao (t++[(⟨0,(⟨(zA 10),(zA 10)⟩:Pat),(-1),[]⟩:Rule)])] []∧h 13=.fn 68 [zao (u++[(⟨0,(⟨(zA 10),(zA 10)⟩:Pat),(-1),[]⟩:Rule)])] []∧h 38=zao (t++[(⟨0,(⟨(zA 10),(zA 10)⟩:Pat),(-1),[]⟩:Rule)])∧h 39=.int .i64 ((t++[(⟨0,(⟨(zA 10),(zA 10)⟩:Pat),(-1),[]⟩:Rule)]).length:Int)∧h 40=.int .i64 i)∧bs=[.cells true 10 ((zA 10).l.map (T.int .i64)),.gone,.gone,.gone,.cells true 10 (s_3.1.l.map (T.int .i64)),.cells true 1 [.bool s_3.2],.cells true 23 (T.int .i64 ((gx (t++[(⟨0,(⟨(zA 10),(zA 10)⟩:Pat),(-1),[]⟩:Rule)]) i).prio) :: ((((gx (t++[(⟨0,(⟨(zA 10),(zA 10)⟩:Pat),(-1),[]⟩:Rule)]) i).mat).mask).l.map (T.int .i64)++((((gx (t++[(⟨0,(⟨(zA 10),(zA 10)⟩:Pat),(-1),[]⟩:Rule)]) i).mat).bits).l.map (T.int .i64)++[T.int .i64 ((gx (t++[(⟨0,(⟨(zA 10),(zA 10)⟩:Pat),(-1),[]⟩:Rule)]) i).step),za4 ((gx (t++[(⟨0,(⟨(zA 10),(zA 10)⟩:Pat),(-1),[]⟩:Rule)]) i).outs)])))]) ?_ ?_
   ·skip;repeat apply TW.seq
    apply TW.block;repeat apply TW.seq
    refine TW.loopT [4,8,9,10,11,12,13,14,15,38,39,40,45,46,47] (fun m h bs=>∃ (i2:Int) (x3:Ar 10) (x4:Bool),zbj k t u i m i2 x3 x4=some s_3∧(h 4=.ptr 0 0 10∧h 8=zao (u++[(⟨0,(⟨(zA 10),(zA 10)⟩:Pat),(-1),[]⟩:Rule)])∧h 9=.ptr 4 0 10∧h 10=.ptr 5 0 1∧h 11=.fn 74 [] [.ptr 5 0 1,.ptr 4 0 10]∧h 12=.fn 68 [zao (t++[(⟨0,(⟨(zA 10),(zA 10)⟩:Pat),(-1),[]⟩:Rule)])] []∧h 13=.fn 68 [zao (u++[(⟨0,(⟨(zA 10),(zA 10)⟩:Pat),(-1),[]⟩:Rule)])] []∧h 14=.int .i64 i∧h 15=.ptr 6 0 23∧h 38=zao (t++[(⟨0,(⟨(zA 10),(zA 10)⟩:Pat),(-1),[]⟩:Rule)])∧h 39=.int .i64 ((t++[(⟨0,(⟨(zA 10),(zA 10)⟩:Pat),(-1),[]⟩:Rule)]).length:Int)∧h 40=.int .i64 i∧h 45=zao (u++[(⟨0,(⟨(zA 10),(zA 10)⟩:Pat),(-1),[]⟩:Rule)])∧h 46=.int .i64 ((u++[(⟨0,(⟨(zA 10),(zA 10)⟩:Pat),(-1),[]⟩:Rule)]).length:Int)∧h 47=.int .i64 i2)∧bs=[.cells true 10 ((zA 10).l.map (T.int .i64)),.gone,.gone,.gone,.cells true 10 (x3.l.map (T.int .i64)),.cells true 1 [.bool x4],.cells true 23 (T.int .i64 ((gx (t++[(⟨0,(⟨(zA 10),(zA 10)⟩:Pat),(-1),[]⟩:Rule)]) i).prio) :: ((((gx (t++[(⟨0,(⟨(zA 10),(zA 10)⟩:Pat),(-1),[]⟩:Rule)]) i).mat).mask).l.map (T.int .i64)++((((gx (t++[(⟨0,(⟨(zA 10),(zA 10)⟩:Pat),(-1),[]⟩:Rule)]) i).mat).bits).l.map (T.int .i64)++[T.int .i64 ((gx (t++[(⟨0,(⟨(zA 10),(zA 10)⟩:Pat),(-1),[]⟩:Rule)]) i).step),za4 ((gx (t++[(⟨0,(⟨(zA 10),(zA 10)⟩:Pat),(-1),[]⟩:Rule)]) i).outs)])))]) ?_ k _ _ ?_;rotate_left
    ·exact ⟨0,x,x2,H3,kq hh,rfl⟩
    clear hh h H3;rintro m h bs ⟨i2,x3,x4,H3,hh,rfl⟩;rcases m with _|m
    ·rw [zbj] at H3;cases H3
    rw [zbj] at H3;repeat apply TW.seq
    refine rk [4,8,9,10,11,12,13,14,15,38,39,40,45,46,47,48] [] hh ?_;clear hh h;intro h hh;rcases isp H3 with ⟨c9,H3⟩|⟨c9,H3⟩;rotate_left
    ·skip;repeat apply TW.seq
     refine cf (f2 hh (decide_eq_false c9)) ?_;refine xk ?_;cases H3;exact ce hh ⟨kq hh,rfl⟩
    repeat apply TW.seq
    refine ct (f2 hh (decide_eq_true c9)) ?_;repeat apply TW.seq
    refine sk ?_;repeat apply TW.seq
    apply TW.block;obtain ⟨g10,H3⟩:=isg H3;repeat apply TW.seq
    refine rk [4,8,9,10,11,12,13,14,15,16,17,38,39,40,45,46,47] [] (f3 hh (zal g10) (z7e ax)) ?_;clear hh h;intro h hh;obtain ⟨ralike,e11,H3⟩:=zad H3;repeat apply TW.seq
    refine rkc [4,8,9,10,11,12,13,14,15,16,17,38,39,40,45,46,47,54] [] [(.bool ralike,stL [.cells true 10 ((zA 10).l.map (T.int .i64)),.gone,.gone,.gone,.cells true 10 (x3.l.map (T.int .i64)),.cells true 1 [.bool x4],.cells true 23 (T.int .i64 ((gx (t++[(⟨0,(⟨(zA 10),(zA 10)⟩:Pat),(-1),[]⟩:Rule)]) i).prio) :: ((((gx (t++[(⟨0,(⟨(zA 10),(zA 10)⟩:Pat),(-1),[]⟩:Rule)]) i).mat).mask).l.map (T.int .i64)++((((gx (t++[(⟨0,(⟨(zA 10),(zA 10)⟩:Pat),(-1),[]⟩:Rule)]) i).mat).bits).l.map (T.int .i64)++[T.int .i64 ((gx (t++[(⟨0,(⟨(zA 10),(zA 10)⟩:Pat),(-1),[]⟩:Rule)]) i).step),za4 ((gx (t++[(⟨0,(⟨(zA 10),(zA 10)⟩:Pat),(-1),[]⟩:Rule)]) i).outs)]))),.cells true 23 (T.int .i64 ((gx (u++[(⟨0,(⟨(zA 10),(zA 10)⟩:Pat),(-1),[]⟩:Rule)]) i2).prio) :: ((((gx (u++[(⟨0,(⟨(zA 10),(zA 10)⟩:Pat),(-1),[]⟩:Rule)]) i2).mat).mask).l.map (T.int .i64)++((((gx (u++[(⟨0,(⟨(zA 10),(zA 10)⟩:Pat),(-1),[]⟩:Rule)]) i2).mat).bits).l.map (T.int .i64)++[T.int .i64 ((gx (u++[(⟨0,(⟨(zA 10),(zA 10)⟩:Pat),(-1),[]⟩:Rule)]) i2).step),za4 ((gx (u++[(⟨0,(⟨(zA 10),(zA 10)⟩:Pat),(-1),[]⟩:Rule)]) i2).outs)])))])] hh ?_ ?_
    ·exact ⟨zaj.call ((zls ax hx k (⟨(gx (t++[(⟨0,(⟨(zA 10),(zA 10)⟩:Pat),(-1),[]⟩:Rule)]) i).prio,((gx (t++[(⟨0,(⟨(zA 10),(zA 10)⟩:Pat),(-1),[]⟩:Rule)]) i).mat),(gx (t++[(⟨0,(⟨(zA 10),(zA 10)⟩:Pat),(-1),[]⟩:Rule)]) i).step,(gx (t++[(⟨0,(⟨(zA 10),(zA 10)⟩:Pat),(-1),[]⟩:Rule)]) i).outs⟩:Rule) (⟨(gx (u++[(⟨0,(⟨(zA 10),(zA 10)⟩:Pat),(-1),[]⟩:Rule)]) i2).prio,((gx (u++[(⟨0,(⟨(zA 10),(zA 10)⟩:Pat),(-1),[]⟩:Rule)]) i2).mat),(gx (u++[(⟨0,(⟨(zA 10),(zA 10)⟩:Pat),(-1),[]⟩:Rule)]) i2).step,(gx (u++[(⟨0,(⟨(zA 10),(zA 10)⟩:Pat),(-1),[]⟩:Rule)]) i2).outs⟩:Rule) ralike e11 ).call _),trivial⟩
    clear hh h;intro h hh;rcases isb H3 with ⟨c12,H3⟩|⟨c12,H3⟩;rotate_left
    ·skip;repeat apply TW.seq
     refine cf (f2 hh c12) ?_;repeat apply TW.seq
     refine sk ?_;obtain ⟨rAnd,e13,H3⟩:=zad H3;repeat apply TW.seq
     refine rkc [4,8,9,10,11,12,13,14,15,16,18,19,38,39,40,45,46,47] [] [(.tup [ePat rAnd.1,.bool rAnd.2],stL [.cells true 10 ((zA 10).l.map (T.int .i64)),.gone,.gone,.gone,.cells true 10 (x3.l.map (T.int .i64)),.cells true 1 [.bool x4],.cells true 23 (T.int .i64 ((gx (t++[(⟨0,(⟨(zA 10),(zA 10)⟩:Pat),(-1),[]⟩:Rule)]) i).prio) :: ((((gx (t++[(⟨0,(⟨(zA 10),(zA 10)⟩:Pat),(-1),[]⟩:Rule)]) i).mat).mask).l.map (T.int .i64)++((((gx (t++[(⟨0,(⟨(zA 10),(zA 10)⟩:Pat),(-1),[]⟩:Rule)]) i).mat).bits).l.map (T.int .i64)++[T.int .i64 ((gx (t++[(⟨0,(⟨(zA 10),(zA 10)⟩:Pat),(-1),[]⟩:Rule)]) i).step),za4 ((gx (t++[(⟨0,(⟨(zA 10),(zA 10)⟩:Pat),(-1),[]⟩:Rule)]) i).outs)]))),.cells true 23 (T.int .i64 ((gx (u++[(⟨0,(⟨(zA 10),(zA 10)⟩:Pat),(-1),[]⟩:Rule)]) i2).prio) :: ((((gx (u++[(⟨0,(⟨(zA 10),(zA 10)⟩:Pat),(-1),[]⟩:Rule)]) i2).mat).mask).l.map (T.int .i64)++((((gx (u++[(⟨0,(⟨(zA 10),(zA 10)⟩:Pat),(-1),[]⟩:Rule)]) i2).mat).bits).l.map (T.int .i64)++[T.int .i64 ((gx (u++[(⟨0,(⟨(zA 10),(zA 10)⟩:Pat),(-1),[]⟩:Rule)]) i2).step),za4 ((gx (u++[(⟨0,(⟨(zA 10),(zA 10)⟩:Pat),(-1),[]⟩:Rule)]) i2).outs)])))])] (f2 hh c12) ?_ ?_
     ·exact ⟨zaj.call (Pure.clr (zp6 ax hx k ((gx (t++[(⟨0,(⟨(zA 10),(zA 10)⟩:Pat),(-1),[]⟩:Rule)]) i).mat) ((gx (u++[(⟨0,(⟨(zA 10),(zA 10)⟩:Pat),(-1),[]⟩:Rule)]) i2).mat) rAnd e13 ) (by first|rfl|simp only [c12])),trivial⟩
     clear hh h;intro h hh;refine zk 18 8 20 true (rAnd.1.mask.l.map (T.int .i64)++(rAnd.1.bits.l.map (T.int .i64))) [4,8,9,10,11,12,13,14,15,16,18,19,38,39,40,45,46,47] hh ?_;clear hh h;intro h hh;repeat apply TW.seq
     refine rk [4,8,9,10,11,12,13,14,15,16,18,38,39,40,45,46,47,63] [] (f2 hh c12) ?_;clear hh h;intro h hh;rcases isb H3 with ⟨c14,H3⟩|⟨c14,H3⟩;rotate_left
     ·skip;repeat apply TW.seq
      refine cf (f2 hh c14) ?_;repeat apply TW.seq
      refine sk ?_;repeat apply TW.seq
      refine rk [4,8,9,10,11,12,13,14,15,38,39,40,45,46,47] [] (f3 hh c12 c14) ?_;clear hh h;intro h hh;exact rd m hh ⟨(IntKind.i64.wrap (i2+1)),x3,x4,H3,kq hh,rfl⟩
     repeat apply TW.seq
     refine ct (f2 hh c14) ?_;obtain ⟨s_4,H4,H3⟩:=zad H3;repeat apply TW.seq
     refine cu [4,8,9,10,11,12,13,14,15,20,21,38,39,40,45,46,47] 11 (fun h bs=>(h 4=.ptr 0 0 10∧h 8=zao (u++[(⟨0,(⟨(zA 10),(zA 10)⟩:Pat),(-1),[]⟩:Rule)])∧h 9=.ptr 4 0 10∧h 10=.ptr 5 0 1∧h 11=.fn 74 [] [.ptr 5 0 1,.ptr 4 0 10]∧h 12=.fn 68 [zao (t++[(⟨0,(⟨(zA 10),(zA 10)⟩:Pat),(-1),[]⟩:Rule)])] []∧h 13=.fn 68 [zao (u++[(⟨0,(⟨(zA 10),(zA 10)⟩:Pat),(-1),[]⟩:Rule)])] []∧h 14=.int .i64 i∧h 15=.ptr 6 0 23∧h 20=.ptr 10 0 10∧h 21=.bool s_4.1∧h 38=zao (t++[(⟨0,(⟨(zA 10),(zA 10)⟩:Pat),(-1),[]⟩:Rule)])∧h 39=.int .i64 ((t++[(⟨0,(⟨(zA 10),(zA 10)⟩:Pat),(-1),[]⟩:Rule)]).length:Int)∧h 40=.int .i64 i∧h 45=zao (u++[(⟨0,(⟨(zA 10),(zA 10)⟩:Pat),(-1),[]⟩:Rule)])∧h 46=.int .i64 ((u++[(⟨0,(⟨(zA 10),(zA 10)⟩:Pat),(-1),[]⟩:Rule)]).length:Int)∧h 47=.int .i64 i2)∧bs=[.cells true 10 ((zA 10).l.map (T.int .i64)),.gone,.gone,.gone,.cells true 10 (x3.l.map (T.int .i64)),.cells true 1 [.bool x4],.cells true 23 (T.int .i64 ((gx (t++[(⟨0,(⟨(zA 10),(zA 10)⟩:Pat),(-1),[]⟩:Rule)]) i).prio) :: ((((gx (t++[(⟨0,(⟨(zA 10),(zA 10)⟩:Pat),(-1),[]⟩:Rule)]) i).mat).mask).l.map (T.int .i64)++((((gx (t++[(⟨0,(⟨(zA 10),(zA 10)⟩:Pat),(-1),[]⟩:Rule)]) i).mat).bits).l.map (T.int .i64)++[T.int .i64 ((gx (t++[(⟨0,(⟨(zA 10),(zA 10)⟩:Pat),(-1),[]⟩:Rule)]) i).step),za4 ((gx (t++[(⟨0,(⟨(zA 10),(zA 10)⟩:Pat),(-1),[]⟩:Rule)]) i).outs)]))),.cells true 23 (T.int .i64 ((gx (u++[(⟨0,(⟨(zA 10),(zA 10)⟩:Pat),(-1),[]⟩:Rule)]) i2).prio) :: ((((gx (u++[(⟨0,(⟨(zA 10),(zA 10)⟩:Pat),(-1),[]⟩:Rule)]) i2).mat).mask).l.map (T.int .i64)++((((gx (u++[(⟨0,(⟨(zA 10),(zA 10)⟩:Pat),(-1),[]⟩:Rule)]) i2).mat).bits).l.map (T.int .i64)++[T.int .i64 ((gx (u++[(⟨0,(⟨(zA 10),(zA 10)⟩:Pat),(-1),[]⟩:Rule)]) i2).step),za4 ((gx (u++[(⟨0,(⟨(zA 10),(zA 10)⟩:Pat),(-1),[]⟩:Rule)]) i2).outs)]))),.gone,.cells false (s_4.2.2.1*20) (vecC ePat s_4.2.1),.cells true 10 (s_4.2.2.2.l.map (T.int .i64))]) ?_ ?_
     ·skip;obtain ⟨rb,e15,H4⟩:=zad H4;obtain ⟨rbefore,e16,H4⟩:=zad H4;obtain ⟨g17,H4⟩:=isg H4;rcases isp H4 with ⟨c18,H4⟩|⟨c18,H4⟩;rotate_left
      ·skip;obtain ⟨g21,H4⟩:=isg H4;obtain ⟨rOutside2,e22,H4⟩:=zad H4;repeat apply TW.seq
       refine dcg 3 [18] [] [] [(.arr 9 20 0 rb.2 rb.2 (rb.2*20),stL [.cells true 10 ((zA 10).l.map (T.int .i64)),.gone,.gone,.gone,.cells true 10 (x3.l.map (T.int .i64)),.cells true 1 [.bool x4],.cells true 23 (T.int .i64 ((gx (t++[(⟨0,(⟨(zA 10),(zA 10)⟩:Pat),(-1),[]⟩:Rule)]) i).prio) :: ((((gx (t++[(⟨0,(⟨(zA 10),(zA 10)⟩:Pat),(-1),[]⟩:Rule)]) i).mat).mask).l.map (T.int .i64)++((((gx (t++[(⟨0,(⟨(zA 10),(zA 10)⟩:Pat),(-1),[]⟩:Rule)]) i).mat).bits).l.map (T.int .i64)++[T.int .i64 ((gx (t++[(⟨0,(⟨(zA 10),(zA 10)⟩:Pat),(-1),[]⟩:Rule)]) i).step),za4 ((gx (t++[(⟨0,(⟨(zA 10),(zA 10)⟩:Pat),(-1),[]⟩:Rule)]) i).outs)]))),.cells true 23 (T.int .i64 ((gx (u++[(⟨0,(⟨(zA 10),(zA 10)⟩:Pat),(-1),[]⟩:Rule)]) i2).prio) :: ((((gx (u++[(⟨0,(⟨(zA 10),(zA 10)⟩:Pat),(-1),[]⟩:Rule)]) i2).mat).mask).l.map (T.int .i64)++((((gx (u++[(⟨0,(⟨(zA 10),(zA 10)⟩:Pat),(-1),[]⟩:Rule)]) i2).mat).bits).l.map (T.int .i64)++[T.int .i64 ((gx (u++[(⟨0,(⟨(zA 10),(zA 10)⟩:Pat),(-1),[]⟩:Rule)]) i2).step),za4 ((gx (u++[(⟨0,(⟨(zA 10),(zA 10)⟩:Pat),(-1),[]⟩:Rule)]) i2).outs)]))),.gone,.cells false (rb.2*20) (vecC ePat rb.1)]),(lPat rbefore,stL [.cells true 10 ((zA 10).l.map (T.int .i64)),.gone,.gone,.gone,.cells true 10 (x3.l.map (T.int .i64)),.cells true 1 [.bool x4],.cells true 23 (T.int .i64 ((gx (t++[(⟨0,(⟨(zA 10),(zA 10)⟩:Pat),(-1),[]⟩:Rule)]) i).prio) :: ((((gx (t++[(⟨0,(⟨(zA 10),(zA 10)⟩:Pat),(-1),[]⟩:Rule)]) i).mat).mask).l.map (T.int .i64)++((((gx (t++[(⟨0,(⟨(zA 10),(zA 10)⟩:Pat),(-1),[]⟩:Rule)]) i).mat).bits).l.map (T.int .i64)++[T.int .i64 ((gx (t++[(⟨0,(⟨(zA 10),(zA 10)⟩:Pat),(-1),[]⟩:Rule)]) i).step),za4 ((gx (t++[(⟨0,(⟨(zA 10),(zA 10)⟩:Pat),(-1),[]⟩:Rule)]) i).outs)]))),.cells true 23 (T.int .i64 ((gx (u++[(⟨0,(⟨(zA 10),(zA 10)⟩:Pat),(-1),[]⟩:Rule)]) i2).prio) :: ((((gx (u++[(⟨0,(⟨(zA 10),(zA 10)⟩:Pat),(-1),[]⟩:Rule)]) i2).mat).mask).l.map (T.int .i64)++((((gx (u++[(⟨0,(⟨(zA 10),(zA 10)⟩:Pat),(-1),[]⟩:Rule)]) i2).mat).bits).l.map (T.int .i64)++[T.int .i64 ((gx (u++[(⟨0,(⟨(zA 10),(zA 10)⟩:Pat),(-1),[]⟩:Rule)]) i2).step),za4 ((gx (u++[(⟨0,(⟨(zA 10),(zA 10)⟩:Pat),(-1),[]⟩:Rule)]) i2).outs)]))),.gone,.cells false (rb.2*20) (vecC ePat rb.1)]),(.tup [.agg (rOutside2.1.l.map (T.int .i64)),.bool rOutside2.2],stL [.cells true 10 ((zA 10).l.map (T.int .i64)),.gone,.gone,.gone,.cells true 10 (x3.l.map (T.int .i64)),.cells true 1 [.bool x4],.cells true 23 (T.int .i64 ((gx (t++[(⟨0,(⟨(zA 10),(zA 10)⟩:Pat),(-1),[]⟩:Rule)]) i).prio) :: ((((gx (t++[(⟨0,(⟨(zA 10),(zA 10)⟩:Pat),(-1),[]⟩:Rule)]) i).mat).mask).l.map (T.int .i64)++((((gx (t++[(⟨0,(⟨(zA 10),(zA 10)⟩:Pat),(-1),[]⟩:Rule)]) i).mat).bits).l.map (T.int .i64)++[T.int .i64 ((gx (t++[(⟨0,(⟨(zA 10),(zA 10)⟩:Pat),(-1),[]⟩:Rule)]) i).step),za4 ((gx (t++[(⟨0,(⟨(zA 10),(zA 10)⟩:Pat),(-1),[]⟩:Rule)]) i).outs)]))),.cells true 23 (T.int .i64 ((gx (u++[(⟨0,(⟨(zA 10),(zA 10)⟩:Pat),(-1),[]⟩:Rule)]) i2).prio) :: ((((gx (u++[(⟨0,(⟨(zA 10),(zA 10)⟩:Pat),(-1),[]⟩:Rule)]) i2).mat).mask).l.map (T.int .i64)++((((gx (u++[(⟨0,(⟨(zA 10),(zA 10)⟩:Pat),(-1),[]⟩:Rule)]) i2).mat).bits).l.map (T.int .i64)++[T.int .i64 ((gx (u++[(⟨0,(⟨(zA 10),(zA 10)⟩:Pat),(-1),[]⟩:Rule)]) i2).step),za4 ((gx (u++[(⟨0,(⟨(zA 10),(zA 10)⟩:Pat),(-1),[]⟩:Rule)]) i2).outs)]))),.gone,.cells false ((rb.2+rbefore.length)*20) (vecC ePat (rb.1++rbefore))])] [.cells true 10 ((zA 10).l.map (T.int .i64)),.gone,.gone,.gone,.cells true 10 (x3.l.map (T.int .i64)),.cells true 1 [.bool x4],.cells true 23 (T.int .i64 ((gx (t++[(⟨0,(⟨(zA 10),(zA 10)⟩:Pat),(-1),[]⟩:Rule)]) i).prio) :: ((((gx (t++[(⟨0,(⟨(zA 10),(zA 10)⟩:Pat),(-1),[]⟩:Rule)]) i).mat).mask).l.map (T.int .i64)++((((gx (t++[(⟨0,(⟨(zA 10),(zA 10)⟩:Pat),(-1),[]⟩:Rule)]) i).mat).bits).l.map (T.int .i64)++[T.int .i64 ((gx (t++[(⟨0,(⟨(zA 10),(zA 10)⟩:Pat),(-1),[]⟩:Rule)]) i).step),za4 ((gx (t++[(⟨0,(⟨(zA 10),(zA 10)⟩:Pat),(-1),[]⟩:Rule)]) i).outs)]))),.cells true 23 (T.int .i64 ((gx (u++[(⟨0,(⟨(zA 10),(zA 10)⟩:Pat),(-1),[]⟩:Rule)]) i2).prio) :: ((((gx (u++[(⟨0,(⟨(zA 10),(zA 10)⟩:Pat),(-1),[]⟩:Rule)]) i2).mat).mask).l.map (T.int .i64)++((((gx (u++[(⟨0,(⟨(zA 10),(zA 10)⟩:Pat),(-1),[]⟩:Rule)]) i2).mat).bits).l.map (T.int .i64)++[T.int .i64 ((gx (u++[(⟨0,(⟨(zA 10),(zA 10)⟩:Pat),(-1),[]⟩:Rule)]) i2).step),za4 ((gx (u++[(⟨0,(⟨(zA 10),(zA 10)⟩:Pat),(-1),[]⟩:Rule)]) i2).outs)]))),.gone,.cells false ((rb.2+rbefore.length)*20) (vecC ePat (rb.1++rbefore)),.cells true 10 (rOutside2.1.l.map (T.int .i64))] (fun h=>h 4=.ptr 0 0 10∧h 8=zao (u++[(⟨0,(⟨(zA 10),(zA 10)⟩:Pat),(-1),[]⟩:Rule)])∧h 9=.ptr 4 0 10∧h 10=.ptr 5 0 1∧h 11=.fn 74 [] [.ptr 5 0 1,.ptr 4 0 10]∧h 12=.fn 68 [zao (t++[(⟨0,(⟨(zA 10),(zA 10)⟩:Pat),(-1),[]⟩:Rule)])] []∧h 13=.fn 68 [zao (u++[(⟨0,(⟨(zA 10),(zA 10)⟩:Pat),(-1),[]⟩:Rule)])] []∧h 14=.int .i64 i∧h 15=.ptr 6 0 23∧h 20=.ptr 10 0 10∧h 21=.bool rOutside2.2∧h 38=zao (t++[(⟨0,(⟨(zA 10),(zA 10)⟩:Pat),(-1),[]⟩:Rule)])∧h 39=.int .i64 ((t++[(⟨0,(⟨(zA 10),(zA 10)⟩:Pat),(-1),[]⟩:Rule)]).length:Int)∧h 40=.int .i64 i∧h 45=zao (u++[(⟨0,(⟨(zA 10),(zA 10)⟩:Pat),(-1),[]⟩:Rule)])∧h 46=.int .i64 ((u++[(⟨0,(⟨(zA 10),(zA 10)⟩:Pat),(-1),[]⟩:Rule)]).length:Int)∧h 47=.int .i64 i2) (f3 hh c12 (f3 c14 (zew ePat rbefore) (f3 (zc7 (f:=ePat) (e:=20) (fun x=>zbb x) rbefore) (zd1 (f:=ePat) (fun x=>zmq x) rbefore) (f2 (zoz ax) (zuh ax))))) trivial ?_ ?_
       ·exact ⟨car [9] (zgo ax hx k (t++[(⟨0,(⟨(zA 10),(zA 10)⟩:Pat),(-1),[]⟩:Rule)]) i rb e15),zaj.call (Pure.clr (zhc ax hx k (u++[(⟨0,(⟨(zA 10),(zA 10)⟩:Pat),(-1),[]⟩:Rule)]) i2 rbefore e16 ) (by first|rfl|simp only [c12,c14])),(by have q:=zaj.call (Pure.lend (S:=stL [.cells true 10 ((zA 10).l.map (T.int .i64)),.gone,.gone,.gone,.cells true 10 (x3.l.map (T.int .i64)),.cells true 1 [.bool x4],.cells true 23 (T.int .i64 ((gx (t++[(⟨0,(⟨(zA 10),(zA 10)⟩:Pat),(-1),[]⟩:Rule)]) i).prio) :: ((((gx (t++[(⟨0,(⟨(zA 10),(zA 10)⟩:Pat),(-1),[]⟩:Rule)]) i).mat).mask).l.map (T.int .i64)++((((gx (t++[(⟨0,(⟨(zA 10),(zA 10)⟩:Pat),(-1),[]⟩:Rule)]) i).mat).bits).l.map (T.int .i64)++[T.int .i64 ((gx (t++[(⟨0,(⟨(zA 10),(zA 10)⟩:Pat),(-1),[]⟩:Rule)]) i).step),za4 ((gx (t++[(⟨0,(⟨(zA 10),(zA 10)⟩:Pat),(-1),[]⟩:Rule)]) i).outs)]))),.cells true 23 (T.int .i64 ((gx (u++[(⟨0,(⟨(zA 10),(zA 10)⟩:Pat),(-1),[]⟩:Rule)]) i2).prio) :: ((((gx (u++[(⟨0,(⟨(zA 10),(zA 10)⟩:Pat),(-1),[]⟩:Rule)]) i2).mat).mask).l.map (T.int .i64)++((((gx (u++[(⟨0,(⟨(zA 10),(zA 10)⟩:Pat),(-1),[]⟩:Rule)]) i2).mat).bits).l.map (T.int .i64)++[T.int .i64 ((gx (u++[(⟨0,(⟨(zA 10),(zA 10)⟩:Pat),(-1),[]⟩:Rule)]) i2).step),za4 ((gx (u++[(⟨0,(⟨(zA 10),(zA 10)⟩:Pat),(-1),[]⟩:Rule)]) i2).outs)]))),.gone,.cells false ((rb.2+rbefore.length)*20) (vecC ePat (rb.1++rbefore))]) (args:=[ePat rAnd.1,.arr 9 20 0 (rb.2+rbefore.length) (rb.2+rbefore.length) ((rb.2+rbefore.length)*20)]) (zle ax hx k rAnd.1 (rb.1++rbefore) rOutside2 e22 ) (And.intro (Or.inl rfl) (And.intro (zoo (fun x=>zbb x) (by decide) (by rfl) g21) (trivial))) (by first|rfl | (simp only [tupT,T.flat,T.flatL,ztp,zh6,Bool.and_self];done)));(try simp only [c12,c14] at q);first|exact q | (simp only [Nat.add_mul,Nat.one_mul,za1] at q ⊢;exact q)),trivial⟩
       clear hh h;intro h hh;cases H4;exact ce hh ⟨kq hh,rfl⟩
      obtain ⟨g19,H4⟩:=isg H4;obtain ⟨rOutside,e20,H4⟩:=zad H4;repeat apply TW.seq
      refine dcg 3 [18] [] [] [(.arr 9 20 0 rb.2 rb.2 (rb.2*20),stL [.cells true 10 ((zA 10).l.map (T.int .i64)),.gone,.gone,.gone,.cells true 10 (x3.l.map (T.int .i64)),.cells true 1 [.bool x4],.cells true 23 (T.int .i64 ((gx (t++[(⟨0,(⟨(zA 10),(zA 10)⟩:Pat),(-1),[]⟩:Rule)]) i).prio) :: ((((gx (t++[(⟨0,(⟨(zA 10),(zA 10)⟩:Pat),(-1),[]⟩:Rule)]) i).mat).mask).l.map (T.int .i64)++((((gx (t++[(⟨0,(⟨(zA 10),(zA 10)⟩:Pat),(-1),[]⟩:Rule)]) i).mat).bits).l.map (T.int .i64)++[T.int .i64 ((gx (t++[(⟨0,(⟨(zA 10),(zA 10)⟩:Pat),(-1),[]⟩:Rule)]) i).step),za4 ((gx (t++[(⟨0,(⟨(zA 10),(zA 10)⟩:Pat),(-1),[]⟩:Rule)]) i).outs)]))),.cells true 23 (T.int .i64 ((gx (u++[(⟨0,(⟨(zA 10),(zA 10)⟩:Pat),(-1),[]⟩:Rule)]) i2).prio) :: ((((gx (u++[(⟨0,(⟨(zA 10),(zA 10)⟩:Pat),(-1),[]⟩:Rule)]) i2).mat).mask).l.map (T.int .i64)++((((gx (u++[(⟨0,(⟨(zA 10),(zA 10)⟩:Pat),(-1),[]⟩:Rule)]) i2).mat).bits).l.map (T.int .i64)++[T.int .i64 ((gx (u++[(⟨0,(⟨(zA 10),(zA 10)⟩:Pat),(-1),[]⟩:Rule)]) i2).step),za4 ((gx (u++[(⟨0,(⟨(zA 10),(zA 10)⟩:Pat),(-1),[]⟩:Rule)]) i2).outs)]))),.gone,.cells false (rb.2*20) (vecC ePat rb.1)]),(lPat rbefore,stL [.cells true 10 ((zA 10).l.map (T.int .i64)),.gone,.gone,.gone,.cells true 10 (x3.l.map (T.int .i64)),.cells true 1 [.bool x4],.cells true 23 (T.int .i64 ((gx (t++[(⟨0,(⟨(zA 10),(zA 10)⟩:Pat),(-1),[]⟩:Rule)]) i).prio) :: ((((gx (t++[(⟨0,(⟨(zA 10),(zA 10)⟩:Pat),(-1),[]⟩:Rule)]) i).mat).mask).l.map (T.int .i64)++((((gx (t++[(⟨0,(⟨(zA 10),(zA 10)⟩:Pat),(-1),[]⟩:Rule)]) i).mat).bits).l.map (T.int .i64)++[T.int .i64 ((gx (t++[(⟨0,(⟨(zA 10),(zA 10)⟩:Pat),(-1),[]⟩:Rule)]) i).step),za4 ((gx (t++[(⟨0,(⟨(zA 10),(zA 10)⟩:Pat),(-1),[]⟩:Rule)]) i).outs)]))),.cells true 23 (T.int .i64 ((gx (u++[(⟨0,(⟨(zA 10),(zA 10)⟩:Pat),(-1),[]⟩:Rule)]) i2).prio) :: ((((gx (u++[(⟨0,(⟨(zA 10),(zA 10)⟩:Pat),(-1),[]⟩:Rule)]) i2).mat).mask).l.map (T.int .i64)++((((gx (u++[(⟨0,(⟨(zA 10),(zA 10)⟩:Pat),(-1),[]⟩:Rule)]) i2).mat).bits).l.map (T.int .i64)++[T.int .i64 ((gx (u++[(⟨0,(⟨(zA 10),(zA 10)⟩:Pat),(-1),[]⟩:Rule)]) i2).step),za4 ((gx (u++[(⟨0,(⟨(zA 10),(zA 10)⟩:Pat),(-1),[]⟩:Rule)]) i2).outs)]))),.gone,.cells false (rb.2*20) (vecC ePat rb.1)]),(.tup [.agg (rOutside.1.l.map (T.int .i64)),.bool rOutside.2],stL [.cells true 10 ((zA 10).l.map (T.int .i64)),.gone,.gone,.gone,.cells true 10 (x3.l.map (T.int .i64)),.cells true 1 [.bool x4],.cells true 23 (T.int .i64 ((gx (t++[(⟨0,(⟨(zA 10),(zA 10)⟩:Pat),(-1),[]⟩:Rule)]) i).prio) :: ((((gx (t++[(⟨0,(⟨(zA 10),(zA 10)⟩:Pat),(-1),[]⟩:Rule)]) i).mat).mask).l.map (T.int .i64)++((((gx (t++[(⟨0,(⟨(zA 10),(zA 10)⟩:Pat),(-1),[]⟩:Rule)]) i).mat).bits).l.map (T.int .i64)++[T.int .i64 ((gx (t++[(⟨0,(⟨(zA 10),(zA 10)⟩:Pat),(-1),[]⟩:Rule)]) i).step),za4 ((gx (t++[(⟨0,(⟨(zA 10),(zA 10)⟩:Pat),(-1),[]⟩:Rule)]) i).outs)]))),.cells true 23 (T.int .i64 ((gx (u++[(⟨0,(⟨(zA 10),(zA 10)⟩:Pat),(-1),[]⟩:Rule)]) i2).prio) :: ((((gx (u++[(⟨0,(⟨(zA 10),(zA 10)⟩:Pat),(-1),[]⟩:Rule)]) i2).mat).mask).l.map (T.int .i64)++((((gx (u++[(⟨0,(⟨(zA 10),(zA 10)⟩:Pat),(-1),[]⟩:Rule)]) i2).mat).bits).l.map (T.int .i64)++[T.int .i64 ((gx (u++[(⟨0,(⟨(zA 10),(zA 10)⟩:Pat),(-1),[]⟩:Rule)]) i2).step),za4 ((gx (u++[(⟨0,(⟨(zA 10),(zA 10)⟩:Pat),(-1),[]⟩:Rule)]) i2).outs)]))),.gone,.cells false (rb.2*20) (vecC ePat rb.1)])] [.cells true 10 ((zA 10).l.map (T.int .i64)),.gone,.gone,.gone,.cells true 10 (x3.l.map (T.int .i64)),.cells true 1 [.bool x4],.cells true 23 (T.int .i64 ((gx (t++[(⟨0,(⟨(zA 10),(zA 10)⟩:Pat),(-1),[]⟩:Rule)]) i).prio) :: ((((gx (t++[(⟨0,(⟨(zA 10),(zA 10)⟩:Pat),(-1),[]⟩:Rule)]) i).mat).mask).l.map (T.int .i64)++((((gx (t++[(⟨0,(⟨(zA 10),(zA 10)⟩:Pat),(-1),[]⟩:Rule)]) i).mat).bits).l.map (T.int .i64)++[T.int .i64 ((gx (t++[(⟨0,(⟨(zA 10),(zA 10)⟩:Pat),(-1),[]⟩:Rule)]) i).step),za4 ((gx (t++[(⟨0,(⟨(zA 10),(zA 10)⟩:Pat),(-1),[]⟩:Rule)]) i).outs)]))),.cells true 23 (T.int .i64 ((gx (u++[(⟨0,(⟨(zA 10),(zA 10)⟩:Pat),(-1),[]⟩:Rule)]) i2).prio) :: ((((gx (u++[(⟨0,(⟨(zA 10),(zA 10)⟩:Pat),(-1),[]⟩:Rule)]) i2).mat).mask).l.map (T.int .i64)++((((gx (u++[(⟨0,(⟨(zA 10),(zA 10)⟩:Pat),(-1),[]⟩:Rule)]) i2).mat).bits).l.map (T.int .i64)++[T.int .i64 ((gx (u++[(⟨0,(⟨(zA 10),(zA 10)⟩:Pat),(-1),[]⟩:Rule)]) i2).step),za4 ((gx (u++[(⟨0,(⟨(zA 10),(zA 10)⟩:Pat),(-1),[]⟩:Rule)]) i2).outs)]))),.gone,.cells false (rb.2*20) (vecC ePat rb.1),.cells true 10 (rOutside.1.l.map (T.int .i64))] (fun h=>h 4=.ptr 0 0 10∧h 8=zao (u++[(⟨0,(⟨(zA 10),(zA 10)⟩:Pat),(-1),[]⟩:Rule)])∧h 9=.ptr 4 0 10∧h 10=.ptr 5 0 1∧h 11=.fn 74 [] [.ptr 5 0 1,.ptr 4 0 10]∧h 12=.fn 68 [zao (t++[(⟨0,(⟨(zA 10),(zA 10)⟩:Pat),(-1),[]⟩:Rule)])] []∧h 13=.fn 68 [zao (u++[(⟨0,(⟨(zA 10),(zA 10)⟩:Pat),(-1),[]⟩:Rule)])] []∧h 14=.int .i64 i∧h 15=.ptr 6 0 23∧h 20=.ptr 10 0 10∧h 21=.bool rOutside.2∧h 38=zao (t++[(⟨0,(⟨(zA 10),(zA 10)⟩:Pat),(-1),[]⟩:Rule)])∧h 39=.int .i64 ((t++[(⟨0,(⟨(zA 10),(zA 10)⟩:Pat),(-1),[]⟩:Rule)]).length:Int)∧h 40=.int .i64 i∧h 45=zao (u++[(⟨0,(⟨(zA 10),(zA 10)⟩:Pat),(-1),[]⟩:Rule)])∧h 46=.int .i64 ((u++[(⟨0,(⟨(zA 10),(zA 10)⟩:Pat),(-1),[]⟩:Rule)]).length:Int)∧h 47=.int .i64 i2) (f3 hh c12 (f3 c14 c18 (f3 (zew ePat rbefore) (zc7 (f:=ePat) (e:=20) (fun x=>zbb x) rbefore) (f3 (zd1 (f:=ePat) (fun x=>zmq x) rbefore) (zoz ax) (zuh ax))))) trivial ?_ ?_
      ·exact ⟨car [9] (zgo ax hx k (t++[(⟨0,(⟨(zA 10),(zA 10)⟩:Pat),(-1),[]⟩:Rule)]) i rb e15),zaj.call (Pure.clr (zhc ax hx k (u++[(⟨0,(⟨(zA 10),(zA 10)⟩:Pat),(-1),[]⟩:Rule)]) i2 rbefore e16 ) (by first|rfl|simp only [c12,c14])),(by have q:=zaj.call (Pure.lend (S:=stL [.cells true 10 ((zA 10).l.map (T.int .i64)),.gone,.gone,.gone,.cells true 10 (x3.l.map (T.int .i64)),.cells true 1 [.bool x4],.cells true 23 (T.int .i64 ((gx (t++[(⟨0,(⟨(zA 10),(zA 10)⟩:Pat),(-1),[]⟩:Rule)]) i).prio) :: ((((gx (t++[(⟨0,(⟨(zA 10),(zA 10)⟩:Pat),(-1),[]⟩:Rule)]) i).mat).mask).l.map (T.int .i64)++((((gx (t++[(⟨0,(⟨(zA 10),(zA 10)⟩:Pat),(-1),[]⟩:Rule)]) i).mat).bits).l.map (T.int .i64)++[T.int .i64 ((gx (t++[(⟨0,(⟨(zA 10),(zA 10)⟩:Pat),(-1),[]⟩:Rule)]) i).step),za4 ((gx (t++[(⟨0,(⟨(zA 10),(zA 10)⟩:Pat),(-1),[]⟩:Rule)]) i).outs)]))),.cells true 23 (T.int .i64 ((gx (u++[(⟨0,(⟨(zA 10),(zA 10)⟩:Pat),(-1),[]⟩:Rule)]) i2).prio) :: ((((gx (u++[(⟨0,(⟨(zA 10),(zA 10)⟩:Pat),(-1),[]⟩:Rule)]) i2).mat).mask).l.map (T.int .i64)++((((gx (u++[(⟨0,(⟨(zA 10),(zA 10)⟩:Pat),(-1),[]⟩:Rule)]) i2).mat).bits).l.map (T.int .i64)++[T.int .i64 ((gx (u++[(⟨0,(⟨(zA 10),(zA 10)⟩:Pat),(-1),[]⟩:Rule)]) i2).step),za4 ((gx (u++[(⟨0,(⟨(zA 10),(zA 10)⟩:Pat),(-1),[]⟩:Rule)]) i2).outs)]))),.gone,.cells false (rb.2*20) (vecC ePat rb.1)]) (args:=[ePat rAnd.1,.arr 9 20 0 rb.2 rb.2 (rb.2*20)]) (zle ax hx k rAnd.1 rb.1 rOutside e20 ) (And.intro (Or.inl rfl) (And.intro (zoo (fun x=>zbb x) (by decide) (by rfl) g19) (trivial))) (by first|rfl | (simp only [tupT,T.flat,T.flatL,ztp,zh6,Bool.and_self];done)));(try simp only [c12,c14] at q);first|exact q | (simp only [Nat.add_mul,Nat.one_mul,za1] at q ⊢;exact q)),trivial⟩
      clear hh h;intro h hh;cases H4;exact ce hh ⟨kq hh,rfl⟩
     clear hh h;rintro h bs ⟨hh,rfl⟩;repeat apply TW.seq
     refine rk [4,8,9,10,11,12,13,14,15,20,38,39,40,45,46,47,76] [] (f3 hh c12 c14) ?_;clear hh h;intro h hh;rcases isb H3 with ⟨c23,H3⟩|⟨c23,H3⟩;rotate_left
     ·skip;repeat apply TW.seq
      refine cf (f2 hh c23) ?_;repeat apply TW.seq
      refine sk ?_;repeat apply TW.seq
      refine rk [4,8,9,10,11,12,13,14,15,38,39,40,45,46,47] [] (f3 hh c12 (f2 c14 c23)) ?_;clear hh h;intro h hh;exact rd m hh ⟨(IntKind.i64.wrap (i2+1)),x3,x4,H3,kq hh,rfl⟩
     repeat apply TW.seq
     refine ct (f2 hh c23) ?_;obtain ⟨rb2,e24,H3⟩:=zad H3;repeat apply TW.seq
     refine rkc [4,8,9,10,11,12,13,14,15,38,39,40,45,46,47] [] [(.tup [],stL [.cells true 10 ((zA 10).l.map (T.int .i64)),.gone,.gone,.gone,.cells true 10 (rb2.2.l.map (T.int .i64)),.cells true 1 [.bool rb2.1],.cells true 23 (T.int .i64 ((gx (t++[(⟨0,(⟨(zA 10),(zA 10)⟩:Pat),(-1),[]⟩:Rule)]) i).prio) :: ((((gx (t++[(⟨0,(⟨(zA 10),(zA 10)⟩:Pat),(-1),[]⟩:Rule)]) i).mat).mask).l.map (T.int .i64)++((((gx (t++[(⟨0,(⟨(zA 10),(zA 10)⟩:Pat),(-1),[]⟩:Rule)]) i).mat).bits).l.map (T.int .i64)++[T.int .i64 ((gx (t++[(⟨0,(⟨(zA 10),(zA 10)⟩:Pat),(-1),[]⟩:Rule)]) i).step),za4 ((gx (t++[(⟨0,(⟨(zA 10),(zA 10)⟩:Pat),(-1),[]⟩:Rule)]) i).outs)]))),.cells true 23 (T.int .i64 ((gx (u++[(⟨0,(⟨(zA 10),(zA 10)⟩:Pat),(-1),[]⟩:Rule)]) i2).prio) :: ((((gx (u++[(⟨0,(⟨(zA 10),(zA 10)⟩:Pat),(-1),[]⟩:Rule)]) i2).mat).mask).l.map (T.int .i64)++((((gx (u++[(⟨0,(⟨(zA 10),(zA 10)⟩:Pat),(-1),[]⟩:Rule)]) i2).mat).bits).l.map (T.int .i64)++[T.int .i64 ((gx (u++[(⟨0,(⟨(zA 10),(zA 10)⟩:Pat),(-1),[]⟩:Rule)]) i2).step),za4 ((gx (u++[(⟨0,(⟨(zA 10),(zA 10)⟩:Pat),(-1),[]⟩:Rule)]) i2).outs)]))),.gone,.cells false (s_4.2.2.1*20) (vecC ePat s_4.2.1),.cells true 10 (s_4.2.2.2.l.map (T.int .i64))])] (f3 hh c12 (f2 c14 c23)) ?_ ?_
     ·exact ⟨ca [5,4] (zni ax hx k s_4.2.2.2 x4 x3 rb2 e24),trivial⟩
     clear hh h;intro h hh;repeat apply TW.seq
     refine rk [4,8,9,10,11,12,13,14,15,38,39,40,45,46,47] [] (f3 hh c12 (f2 c14 c23)) ?_;clear hh h;intro h hh;exact rd m hh ⟨(IntKind.i64.wrap (i2+1)),rb2.2,rb2.1,H3,kq hh,rfl⟩
    repeat apply TW.seq
    refine ct (f2 hh c12) ?_;refine xk ?_;repeat apply TW.seq
    refine rk [4,8,9,10,11,12,13,14,15,38,39,40,45,46,47] [] (f2 hh c12) ?_;clear hh h;intro h hh;exact rd m hh ⟨(IntKind.i64.wrap (i2+1)),x3,x4,H3,kq hh,rfl⟩
   clear hh h;rintro h bs ⟨hh,rfl⟩;cases H2;exact ce hh ⟨kq hh,rfl⟩
  clear hh h;rintro h bs ⟨hh,rfl⟩;repeat apply TW.seq
  refine rk [4,8,9,10,11,12,13,38,39,40] [] hh ?_;clear hh h;intro h hh;exact rd m hh ⟨(IntKind.i64.wrap (i+1)),s_2.1,s_2.2,H1,kq hh,rfl⟩
 clear hh h;rintro h bs ⟨hh,rfl⟩;repeat apply TW.seq
 refine ds 3 [(4,some 0),(10,some 5)] [4,5] [] [] [] hh trivial trivial ?_;clear hh h;intro h hh;cases H;exact rtc hh
end
section
open Go Go.RowKit
set_option maxRecDepth 100000
def zgw (k:Nat)  : Option Rule:=some (⟨0,(⟨(zA 10),(zA 10)⟩:Pat),(-1),[]⟩:Rule)
set_option maxHeartbeats 8000000 in
theorem zjg (ax:Axs) (hx:zbx ax) (k:Nat)  (v:Rule) (H:zgw k  = some v):Pure Tryz.prog (EE ax) [] 76 [] (zas v):=by
 rw [zgw] at H;refine en [.cell 0 44] 2 [] (hx.no _ (by decide)) (fn76 ax) ?_;intro h hh;repeat apply TW.seq
 refine rk [0] [] hh ?_;clear hh h;intro h hh;repeat apply TW.seq
 refine rk [0] [] hh ?_;clear hh h;intro h hh;refine nz 0 22 1 ?_;cases H;exact rtc hh
def zcx (k:Nat) (t:List Rule) (k_:Int):Nat→Int→(List Pat)→Nat→Option (List Pat×Nat)
 |0,_,_,_=>none
 |m+1,i,l,n=>(if i<k_ then (if (0:Int)≤i∧i<(t.length:Int) then (if (n+1)*161≤1000000000 then zcx k t k_ m (IntKind.i64.wrap (i+1)) (l++[(gx t i).mat]) (n+1) else none) else none) else some (l,n))
def zgx (k:Nat) (t:List Rule) (k_:Int):Option (List Pat×Nat):=((zcx k t k_ k 0 [] 0:Option (List Pat×Nat)).bind fun s_=>some (s_.1,s_.2))
set_option maxHeartbeats 8000000 in
theorem zld (ax:Axs) (hx:zbx ax) (k:Nat) (t:List Rule) (k_:Int) (v:List Pat×Nat) (H:zgx k t k_=some v):Call Tryz.prog (EE ax) [] 70 [zao t,.int .i64 k_] (stL []) (tupT [.arr 0 20 0 v.2 v.2 (v.2*20)]) (stL [.cells false (v.2*20) (vecC ePat v.1)]):=by
 rw [zgx] at H;refine enBr [.tmp 4] 21 [0,1] (hx.no _ (by decide)) (fn70 ax) ?_;intro h hh;repeat apply TW.seq
 refine rk [0,1] [] hh ?_;clear hh h;intro h hh;repeat apply TW.seq
 refine rk [0,1,5] [] hh ?_;clear hh h;intro h hh;refine vk 5 20 [0,1,5] hh ?_;clear hh h;intro h hh;repeat apply TW.seq
 refine rk [0,1,5,6] [] hh ?_;clear hh h;intro h hh;obtain ⟨s_,H1,H⟩:=zad H;repeat apply TW.seq
 refine cu [5] 1 (fun h bs=>(h 5=.arr 0 20 0 s_.2 s_.2 (s_.2*20))∧bs=[.cells false (s_.2*20) (vecC ePat s_.1)]) ?_ ?_
 ·skip;repeat apply TW.seq
  apply TW.block;repeat apply TW.seq
  refine TW.loopT [0,1,5,6] (fun m h bs=>∃ (i:Int) (l:List Pat) (n:Nat),zcx k t k_ m i l n=some s_∧(h 0=zao t∧h 1=.int .i64 k_∧h 5=.arr 0 20 0 n n (n*20)∧h 6=.int .i64 i)∧bs=[.cells false (n*20) (vecC ePat l)]) ?_ k _ _ ?_;rotate_left
  ·exact ⟨0,[],0,H1,kq hh,rfl⟩
  clear hh h H1;rintro m h bs ⟨i,l,n,H1,hh,rfl⟩;rcases m with _|m
  ·rw [zcx] at H1;cases H1
  rw [zcx] at H1;repeat apply TW.seq
  refine rk [0,1,5,6,9] [] hh ?_;clear hh h;intro h hh;rcases isp H1 with ⟨c1,H1⟩|⟨c1,H1⟩;rotate_left
  ·skip;repeat apply TW.seq
   refine cf (f2 hh (decide_eq_false c1)) ?_;refine xk ?_;cases H1;exact ce hh ⟨kq hh,rfl⟩
  repeat apply TW.seq
  refine ct (f2 hh (decide_eq_true c1)) ?_;repeat apply TW.seq
  refine sk ?_;repeat apply TW.seq
  apply TW.block;obtain ⟨g2,H1⟩:=isg H1;obtain ⟨g3,H1⟩:=isg H1;repeat apply TW.seq
  refine rg [] [] [.cells false ((n+1)*20) (vecC ePat (l++[(gx t i).mat]))] (fun h=>h 0=zao t∧h 1=.int .i64 k_∧h 5=.arr 0 20 0 (n+1) (n+1) ((n+1)*20)∧h 6=.int .i64 i) (f3 hh (zal g2) (f3 ((show vecC ePat [(gx t i).mat]=((((gx t i).mat).mask).l.map (T.int .i64)++((((gx t i).mat).bits).l.map (T.int .i64))) from zgu.trans rfl)) (zoz ax) (zuh ax))) trivial ?_;clear hh h;intro h hh;repeat apply TW.seq
  refine rk [0,1,5,6] [] hh ?_;clear hh h;intro h hh;exact rd m hh ⟨(IntKind.i64.wrap (i+1)),(l++[(gx t i).mat]),(n+1),H1,kq hh,rfl⟩
 clear hh h;rintro h bs ⟨hh,rfl⟩;repeat apply TW.seq
 refine rk [4] [] hh ?_;clear hh h;intro h hh;cases H;exact rtB hh
def zcm (k:Nat) (s_:List Rule×Nat) (s_2:List Rule×Nat) (i:Int):Nat→Bool→Int→(Ar 10)→Option (Bool×Ar 10)
 |0,_,_,_=>none
 |m+1,found2,k_,x2=>(if k_<(s_2.1.length:Int) then (if (0:Int)≤i∧i<(s_.1.length:Int) then (if (0:Int)≤k_∧k_<(s_2.1.length:Int) then ((zj1 k (gx s_.1 i) (gx s_2.1 k_)).bind fun ralike=>((zmm k ((gx s_.1 i).mat) ((gx s_2.1 k_).mat)).bind fun rAnd=>(((if ralike=true then some true else some (!rAnd.2)):Option Bool).bind fun s_6=>(if s_6=true then zcm k s_ s_2 i m found2 (IntKind.i64.wrap (k_+1)) x2 else ((((zgx k s_.1 i).bind fun rb=>((zhk k s_2.1 k_).bind fun rbefore=>(if (rb.2+rbefore.length)*161≤1000000000 then (if rbefore.length=0 then (if rb.1.length=rb.2 then ((zfg k rAnd.1 rb.1).bind fun rOutside=>some (rOutside.2,rb.1,rb.2,rOutside.1)) else none) else (if (rb.1++rbefore).length=rb.2+rbefore.length then ((zfg k rAnd.1 (rb.1++rbefore)).bind fun rOutside2=>some (rOutside2.2,rb.1++rbefore,rb.2+rbefore.length,rOutside2.1)) else none)) else none))):Option (Bool×List Pat×Nat×Ar 10)).bind fun s_7=>(((if s_7.1=true then (if found2=true then ((zdc k s_7.2.2.2 x2).bind fun rCompareHeads=>some (true,(decide (rCompareHeads<0)))) else some (false,true)) else some (found2,false)):Option (Bool×Bool)).bind fun s_8=>(if s_8.2=true then zcm k s_ s_2 i m true (IntKind.i64.wrap (k_+1)) s_7.2.2.2 else zcm k s_ s_2 i m s_8.1 (IntKind.i64.wrap (k_+1)) x2))))))) else none) else none) else some (found2,x2))
def zdp (k:Nat) (s_:List Rule×Nat) (s_2:List Rule×Nat):Nat→Bool→Int→(Ar 10)→Option (Bool×Ar 10)
 |0,_,_,_=>none
 |m+1,found,i,x=>(if i<(s_.1.length:Int) then ((((zcm k s_ s_2 i k found 0 x:Option (Bool×Ar 10)).bind fun s_5=>some (s_5.1,s_5.2)):Option (Bool×Ar 10)).bind fun s_4=>zdp k s_ s_2 m s_4.1 (IntKind.i64.wrap (i+1)) s_4.2) else some (found,x))
def zj3 (k:Nat) (t:List Rule) (u:List Rule):Option (Ar 10×Bool):=(((if (0+t.length)*201≤1000000000 then (if t.length=0 then ((zgw k ).bind fun rrest=>(if (0+1)*201≤1000000000 then some ([rrest],1) else none)) else ((zgw k ).bind fun rrest2=>(if (t.length+1)*201≤1000000000 then some (t++[rrest2],t.length+1) else none))) else none):Option (List Rule×Nat)).bind fun s_=>(if s_.1.length=s_.2 then (((if (0+u.length)*201≤1000000000 then (if u.length=0 then ((zgw k ).bind fun rrest3=>(if (0+1)*201≤1000000000 then some ([rrest3],1) else none)) else ((zgw k ).bind fun rrest4=>(if (u.length+1)*201≤1000000000 then some (u++[rrest4],u.length+1) else none))) else none):Option (List Rule×Nat)).bind fun s_2=>(if s_2.1.length=s_2.2 then ((zdp k s_ s_2 k false 0 (zA 10):Option (Bool×Ar 10)).bind fun s_3=>some (s_3.2,(!s_3.1))) else none)) else none))
set_option maxHeartbeats 8000000 in
theorem zxn (ax:Axs) (hx:zbx ax) (k:Nat) (t:List Rule) (u:List Rule) (v:Ar 10×Bool) (H:zj3 k t u=some v):Pure Tryz.prog (EE ax) [] 37 [zao t,zao u] (tupT [.agg (v.1.l.map (T.int .i64)),.bool v.2]):=by
 rw [zj3] at H;refine enN [.cell 4 39,.tmp 5] 97 [0,1] (hx.no _ (by decide)) (fn37 ax) ?_;intro h hh;repeat apply TW.seq
 refine rk [0,1,4] [] hh ?_;clear hh h;intro h hh;obtain ⟨s_,H1,H⟩:=zad H;repeat apply TW.seq
 refine cu [1,4,6] 2 (fun h bs=>(h 1=zao u∧h 4=.ptr 0 0 10∧h 6=.arr 1 23 0 s_.2 s_.2 (s_.2*23))∧bs=[.cells true 10 ((zA 10).l.map (T.int .i64)),.cells false (s_.2*23) (vecC zas s_.1)]) ?_ ?_
 ·skip;obtain ⟨g1,H1⟩:=isg H1;rcases isp H1 with ⟨c2,H1⟩|⟨c2,H1⟩;rotate_left
  ·skip;obtain ⟨rrest2,e5,H1⟩:=zad H1;obtain ⟨g6,H1⟩:=isg H1;repeat apply TW.seq
   refine rg [17] [(zas rrest2,stL [.cells true 10 ((zA 10).l.map (T.int .i64)),.cells false (t.length*23) (vecC zas t)])] [.cells true 10 ((zA 10).l.map (T.int .i64)),.cells false ((t.length+1)*23) (vecC zas (t++[rrest2]))] (fun h=>h 1=zao u∧h 4=.ptr 0 0 10∧h 6=.arr 1 23 0 (t.length+1) (t.length+1) ((t.length+1)*23)) (f3 hh (zew zas t) (f3 (zc7 (f:=zas) (e:=23) (fun x=>zba x) t) (zd1 (f:=zas) (fun x=>zg4 x) t) (f3 ((show vecC zas [rrest2]=(T.int .i64 rrest2.prio :: (rrest2.mat.mask.l.map (T.int .i64)++(rrest2.mat.bits.l.map (T.int .i64)++[T.int .i64 rrest2.step,za4 rrest2.outs]))) from zgu.trans rfl)) (el28 ax) (sr28 ax)))) ?_ ?_
   ·exact ⟨zaj.call ((zjg ax hx k  rrest2 e5 ).call _),trivial⟩
   clear hh h;intro h hh;cases H1;exact ce hh ⟨kq hh,rfl⟩
  obtain ⟨rrest,e3,H1⟩:=zad H1;obtain ⟨g4,H1⟩:=isg H1;repeat apply TW.seq
  refine rg [17] [(zas rrest,stL [.cells true 10 ((zA 10).l.map (T.int .i64)),.cells true 0 (vecC zas [])])] [.cells true 10 ((zA 10).l.map (T.int .i64)),.cells false (1*23) (vecC zas [rrest])] (fun h=>h 1=zao u∧h 4=.ptr 0 0 10∧h 6=.arr 1 23 0 1 1 (1*23)) (f3 hh c2 (f3 (zew zas t) (zc7 (f:=zas) (e:=23) (fun x=>zba x) t) (f3 (zd1 (f:=zas) (fun x=>zg4 x) t) ((show vecC zas [rrest]=(T.int .i64 rrest.prio :: (rrest.mat.mask.l.map (T.int .i64)++(rrest.mat.bits.l.map (T.int .i64)++[T.int .i64 rrest.step,za4 rrest.outs]))) from zgu.trans rfl)) (f2 (el28 ax) (sr28 ax))))) ?_ ?_
  ·exact ⟨zaj.call ((zjg ax hx k  rrest e3 ).call _),trivial⟩
  clear hh h;intro h hh;cases H1;exact ce hh ⟨kq hh,rfl⟩
 clear hh h;rintro h bs ⟨hh,rfl⟩;obtain ⟨g7,H⟩:=isg H;repeat apply TW.seq
 refine TW.freeze 6 (b:=1) (e:=23) (off:=0) (len:=s_.2) (cap:=s_.2) (M:=(s_.2*23)) (s_.1.map zas) (kq hh) (by rfl) (by omega) (by omega) (by rw [List.drop_zero];exact zf7 (e:=23) (fun x=>zba x) g7) (fun t ht=>by obtain ⟨x,_,rfl⟩:=List.mem_map.1 ht;first|rfl|exact zi8 _|exact zbb _|exact zg7 _|exact zba _ | (rw [List.length_map];rfl)) (by rw [List.length_map];exact g7) (by omega) ?_;rw [zhy _ _ _ (by simp only [lzA]<;>omega)];simp only [scA];refine gk [1,4,6] hh ?_;clear hh h;intro h hh;obtain ⟨s_2,H1,H⟩:=zad H;repeat apply TW.seq
 refine cu [4,6,7] 3 (fun h bs=>(h 4=.ptr 0 0 10∧h 6=zao s_.1∧h 7=.arr 2 23 0 s_2.2 s_2.2 (s_2.2*23))∧bs=[.cells true 10 ((zA 10).l.map (T.int .i64)),.gone,.cells false (s_2.2*23) (vecC zas s_2.1)]) ?_ ?_
 ·skip;obtain ⟨g8,H1⟩:=isg H1;rcases isp H1 with ⟨c9,H1⟩|⟨c9,H1⟩;rotate_left
  ·skip;obtain ⟨rrest4,e12,H1⟩:=zad H1;obtain ⟨g13,H1⟩:=isg H1;repeat apply TW.seq
   refine rg [23] [(zas rrest4,stL [.cells true 10 ((zA 10).l.map (T.int .i64)),.gone,.cells false (u.length*23) (vecC zas u)])] [.cells true 10 ((zA 10).l.map (T.int .i64)),.gone,.cells false ((u.length+1)*23) (vecC zas (u++[rrest4]))] (fun h=>h 4=.ptr 0 0 10∧h 6=zao s_.1∧h 7=.arr 2 23 0 (u.length+1) (u.length+1) ((u.length+1)*23)) (f3 hh (zew zas u) (f3 (zc7 (f:=zas) (e:=23) (fun x=>zba x) u) (zd1 (f:=zas) (fun x=>zg4 x) u) (f3 ((show vecC zas [rrest4]=(T.int .i64 rrest4.prio :: (rrest4.mat.mask.l.map (T.int .i64)++(rrest4.mat.bits.l.map (T.int .i64)++[T.int .i64 rrest4.step,za4 rrest4.outs]))) from zgu.trans rfl)) (el28 ax) (sr28 ax)))) ?_ ?_
   ·exact ⟨zaj.call ((zjg ax hx k  rrest4 e12 ).call _),trivial⟩
   clear hh h;intro h hh;cases H1;exact ce hh ⟨kq hh,rfl⟩
  obtain ⟨rrest3,e10,H1⟩:=zad H1;obtain ⟨g11,H1⟩:=isg H1;repeat apply TW.seq
  refine rg [23] [(zas rrest3,stL [.cells true 10 ((zA 10).l.map (T.int .i64)),.gone,.cells true 0 (vecC zas [])])] [.cells true 10 ((zA 10).l.map (T.int .i64)),.gone,.cells false (1*23) (vecC zas [rrest3])] (fun h=>h 4=.ptr 0 0 10∧h 6=zao s_.1∧h 7=.arr 2 23 0 1 1 (1*23)) (f3 hh c9 (f3 (zew zas u) (zc7 (f:=zas) (e:=23) (fun x=>zba x) u) (f3 (zd1 (f:=zas) (fun x=>zg4 x) u) ((show vecC zas [rrest3]=(T.int .i64 rrest3.prio :: (rrest3.mat.mask.l.map (T.int .i64)++(rrest3.mat.bits.l.map (T.int .i64)++[T.int .i64 rrest3.step,za4 rrest3.outs]))) from zgu.trans rfl)) (f2 (el28 ax) (sr28 ax))))) ?_ ?_
  ·exact ⟨zaj.call ((zjg ax hx k  rrest3 e10 ).call _),trivial⟩
  clear hh h;intro h hh;cases H1;exact ce hh ⟨kq hh,rfl⟩
 clear hh h;rintro h bs ⟨hh,rfl⟩;obtain ⟨g14,H⟩:=isg H;repeat apply TW.seq
 refine TW.freeze 7 (b:=2) (e:=23) (off:=0) (len:=s_2.2) (cap:=s_2.2) (M:=(s_2.2*23)) (s_2.1.map zas) (kq hh) (by rfl) (by omega) (by omega) (by rw [List.drop_zero];exact zf7 (e:=23) (fun x=>zba x) g14) (fun t ht=>by obtain ⟨x,_,rfl⟩:=List.mem_map.1 ht;first|rfl|exact zi8 _|exact zbb _|exact zg7 _|exact zba _ | (rw [List.length_map];rfl)) (by rw [List.length_map];exact g14) (by omega) ?_;rw [zhy _ _ _ (by simp only [lzA]<;>omega)];simp only [scA];refine gk [4,6,7] hh ?_;clear hh h;intro h hh;repeat apply TW.seq
 refine rk [4,6,7,8] [] (f2 hh (bz39 ax)) ?_;clear hh h;intro h hh;repeat apply TW.seq
 refine rk [4,6,7,8,9] [] hh ?_;clear hh h;intro h hh;repeat apply TW.seq
 refine rk [4,6,7,8,9,10] [] hh ?_;clear hh h;intro h hh;obtain ⟨s_3,H1,H⟩:=zad H;repeat apply TW.seq
 refine cu [4,8,9] 4 (fun h bs=>(h 4=.ptr 0 0 10∧h 8=.ptr 3 0 10∧h 9=.bool s_3.1)∧bs=[.cells true 10 ((zA 10).l.map (T.int .i64)),.gone,.gone,.cells true 10 (s_3.2.l.map (T.int .i64))]) ?_ ?_
 ·skip;repeat apply TW.seq
  apply TW.block;repeat apply TW.seq
  refine TW.loopT [4,6,7,8,9,10] (fun m h bs=>∃ (found:Bool) (i:Int) (x:Ar 10),zdp k s_ s_2 m found i x=some s_3∧(h 4=.ptr 0 0 10∧h 6=zao s_.1∧h 7=zao s_2.1∧h 8=.ptr 3 0 10∧h 9=.bool found∧h 10=.int .i64 i)∧bs=[.cells true 10 ((zA 10).l.map (T.int .i64)),.gone,.gone,.cells true 10 (x.l.map (T.int .i64))]) ?_ k _ _ ?_;rotate_left
  ·exact ⟨false,0,(zA 10),H1,kq hh,rfl⟩
  clear hh h H1;rintro m h bs ⟨found,i,x,H1,hh,rfl⟩;rcases m with _|m
  ·rw [zdp] at H1;cases H1
  rw [zdp] at H1;repeat apply TW.seq
  refine rk [4,6,7,8,9,10,33] [] hh ?_;clear hh h;intro h hh;rcases isp H1 with ⟨c15,H1⟩|⟨c15,H1⟩;rotate_left
  ·skip;repeat apply TW.seq
   refine cf (f2 hh (decide_eq_false c15)) ?_;refine xk ?_;cases H1;exact ce hh ⟨kq hh,rfl⟩
  repeat apply TW.seq
  refine ct (f2 hh (decide_eq_true c15)) ?_;repeat apply TW.seq
  refine sk ?_;obtain ⟨s_4,H2,H1⟩:=zad H1;repeat apply TW.seq
  refine cu [4,6,7,8,9,10] 4 (fun h bs=>(h 4=.ptr 0 0 10∧h 6=zao s_.1∧h 7=zao s_2.1∧h 8=.ptr 3 0 10∧h 9=.bool s_4.1∧h 10=.int .i64 i)∧bs=[.cells true 10 ((zA 10).l.map (T.int .i64)),.gone,.gone,.cells true 10 (s_4.2.l.map (T.int .i64))]) ?_ ?_
  ·skip;repeat apply TW.seq
   apply TW.block;repeat apply TW.seq
   refine rk [4,6,7,8,9,10,11] [] hh ?_;clear hh h;intro h hh;obtain ⟨s_5,H3,H2⟩:=zad H2;repeat apply TW.seq
   refine cu [4,6,7,8,9,10] 4 (fun h bs=>(h 4=.ptr 0 0 10∧h 6=zao s_.1∧h 7=zao s_2.1∧h 8=.ptr 3 0 10∧h 9=.bool s_5.1∧h 10=.int .i64 i)∧bs=[.cells true 10 ((zA 10).l.map (T.int .i64)),.gone,.gone,.cells true 10 (s_5.2.l.map (T.int .i64))]) ?_ ?_
   ·skip;repeat apply TW.seq
    apply TW.block;repeat apply TW.seq
    refine TW.loopT [4,6,7,8,9,10,11] (fun m h bs=>∃ (found2:Bool) (k_:Int) (x2:Ar 10),zcm k s_ s_2 i m found2 k_ x2=some s_5∧(h 4=.ptr 0 0 10∧h 6=zao s_.1∧h 7=zao s_2.1∧h 8=.ptr 3 0 10∧h 9=.bool found2∧h 10=.int .i64 i∧h 11=.int .i64 k_)∧bs=[.cells true 10 ((zA 10).l.map (T.int .i64)),.gone,.gone,.cells true 10 (x2.l.map (T.int .i64))]) ?_ k _ _ ?_;rotate_left
    ·exact ⟨found,0,x,H3,kq hh,rfl⟩
    clear hh h H3;rintro m h bs ⟨found2,k_,x2,H3,hh,rfl⟩;rcases m with _|m
    ·rw [zcm] at H3;cases H3
    rw [zcm] at H3;repeat apply TW.seq
    refine rk [4,6,7,8,9,10,11,39] [] hh ?_;clear hh h;intro h hh;rcases isp H3 with ⟨c16,H3⟩|⟨c16,H3⟩;rotate_left
    ·skip;repeat apply TW.seq
     refine cf (f2 hh (decide_eq_false c16)) ?_;refine xk ?_;cases H3;exact ce hh ⟨kq hh,rfl⟩
    repeat apply TW.seq
    refine ct (f2 hh (decide_eq_true c16)) ?_;repeat apply TW.seq
    refine sk ?_;repeat apply TW.seq
    apply TW.block;obtain ⟨g17,H3⟩:=isg H3;obtain ⟨g18,H3⟩:=isg H3;obtain ⟨ralike,e19,H3⟩:=zad H3;repeat apply TW.seq
    refine dk 8 [4,6,7,8,9,10,11,12] [] [] [(.bool ralike,stL [.cells true 10 ((zA 10).l.map (T.int .i64)),.gone,.gone,.cells true 10 (x2.l.map (T.int .i64))])] (f3 hh (zal g17) (zal g18)) trivial ?_ ?_
    ·exact ⟨zaj.call ((zxl ax hx k (gx s_.1 i) (gx s_2.1 k_) ralike e19 ).call _),trivial⟩
    clear hh h;intro h hh;obtain ⟨rAnd,e20,H3⟩:=zad H3;repeat apply TW.seq
    refine dk 10 [4,6,7,8,9,10,11,12,13,14] [] [] [(.tup [ePat rAnd.1,.bool rAnd.2],stL [.cells true 10 ((zA 10).l.map (T.int .i64)),.gone,.gone,.cells true 10 (x2.l.map (T.int .i64))])] (f3 hh (zal g17) (zal g18)) trivial ?_ ?_
    ·exact ⟨zaj.call ((zsa ax hx k ((gx s_.1 i).mat) ((gx s_2.1 k_).mat) rAnd e20 ).call _),trivial⟩
    clear hh h;intro h hh;refine zk 13 4 20 true (rAnd.1.mask.l.map (T.int .i64)++(rAnd.1.bits.l.map (T.int .i64))) [4,6,7,8,9,10,11,12,13,14] hh ?_;clear hh h;intro h hh;obtain ⟨s_6,H4,H3⟩:=zad H3;repeat apply TW.seq
    refine cu [4,6,7,8,9,10,11,13,69] 5 (fun h bs=>(h 4=.ptr 0 0 10∧h 6=zao s_.1∧h 7=zao s_2.1∧h 8=.ptr 3 0 10∧h 9=.bool found2∧h 10=.int .i64 i∧h 11=.int .i64 k_∧h 13=.cp (rAnd.1.mask.l.map (T.int .i64)++(rAnd.1.bits.l.map (T.int .i64)))∧h 69=.bool s_6)∧bs=[.cells true 10 ((zA 10).l.map (T.int .i64)),.gone,.gone,.cells true 10 (x2.l.map (T.int .i64)),.gone]) ?_ ?_
    ·skip;rcases isb H4 with ⟨c21,H4⟩|⟨c21,H4⟩;rotate_left
     ·skip;repeat apply TW.seq
      refine rk [4,6,7,8,9,10,11,13,69] [] (f2 hh c21) ?_;clear hh h;intro h hh;cases H4;exact ce hh ⟨kq hh,rfl⟩
     repeat apply TW.seq
     refine rk [4,6,7,8,9,10,11,13,69] [] (f2 hh c21) ?_;clear hh h;intro h hh;cases H4;exact ce hh ⟨kq hh,rfl⟩
    clear hh h;rintro h bs ⟨hh,rfl⟩;rcases isb H3 with ⟨c22,H3⟩|⟨c22,H3⟩;rotate_left
    ·skip;repeat apply TW.seq
     refine cf (f2 hh c22) ?_;repeat apply TW.seq
     refine sk ?_;obtain ⟨s_7,H4,H3⟩:=zad H3;repeat apply TW.seq
     refine cu [4,6,7,8,9,10,11,15,16] 7 (fun h bs=>(h 4=.ptr 0 0 10∧h 6=zao s_.1∧h 7=zao s_2.1∧h 8=.ptr 3 0 10∧h 9=.bool found2∧h 10=.int .i64 i∧h 11=.int .i64 k_∧h 15=.ptr 6 0 10∧h 16=.bool s_7.1)∧bs=[.cells true 10 ((zA 10).l.map (T.int .i64)),.gone,.gone,.cells true 10 (x2.l.map (T.int .i64)),.gone,.cells false (s_7.2.2.1*20) (vecC ePat s_7.2.1),.cells true 10 (s_7.2.2.2.l.map (T.int .i64))]) ?_ ?_
     ·skip;obtain ⟨rb,e23,H4⟩:=zad H4;obtain ⟨rbefore,e24,H4⟩:=zad H4;obtain ⟨g25,H4⟩:=isg H4;rcases isp H4 with ⟨c26,H4⟩|⟨c26,H4⟩;rotate_left
      ·skip;obtain ⟨g29,H4⟩:=isg H4;obtain ⟨rOutside2,e30,H4⟩:=zad H4;repeat apply TW.seq
       refine dcg 3 [13] [] [] [(.arr 5 20 0 rb.2 rb.2 (rb.2*20),stL [.cells true 10 ((zA 10).l.map (T.int .i64)),.gone,.gone,.cells true 10 (x2.l.map (T.int .i64)),.gone,.cells false (rb.2*20) (vecC ePat rb.1)]),(lPat rbefore,stL [.cells true 10 ((zA 10).l.map (T.int .i64)),.gone,.gone,.cells true 10 (x2.l.map (T.int .i64)),.gone,.cells false (rb.2*20) (vecC ePat rb.1)]),(.tup [.agg (rOutside2.1.l.map (T.int .i64)),.bool rOutside2.2],stL [.cells true 10 ((zA 10).l.map (T.int .i64)),.gone,.gone,.cells true 10 (x2.l.map (T.int .i64)),.gone,.cells false ((rb.2+rbefore.length)*20) (vecC ePat (rb.1++rbefore))])] [.cells true 10 ((zA 10).l.map (T.int .i64)),.gone,.gone,.cells true 10 (x2.l.map (T.int .i64)),.gone,.cells false ((rb.2+rbefore.length)*20) (vecC ePat (rb.1++rbefore)),.cells true 10 (rOutside2.1.l.map (T.int .i64))] (fun h=>h 4=.ptr 0 0 10∧h 6=zao s_.1∧h 7=zao s_2.1∧h 8=.ptr 3 0 10∧h 9=.bool found2∧h 10=.int .i64 i∧h 11=.int .i64 k_∧h 15=.ptr 6 0 10∧h 16=.bool rOutside2.2) (f3 hh c22 (f3 (zew ePat rbefore) (zc7 (f:=ePat) (e:=20) (fun x=>zbb x) rbefore) (f3 (zd1 (f:=ePat) (fun x=>zmq x) rbefore) (zoz ax) (zuh ax)))) trivial ?_ ?_
       ·exact ⟨car [5] (zld ax hx k s_.1 i rb e23),zaj.call (Pure.clr (zjq ax hx k s_2.1 k_ rbefore e24 ) (by first|rfl|simp only [c22])),(by have q:=zaj.call (Pure.lend (S:=stL [.cells true 10 ((zA 10).l.map (T.int .i64)),.gone,.gone,.cells true 10 (x2.l.map (T.int .i64)),.gone,.cells false ((rb.2+rbefore.length)*20) (vecC ePat (rb.1++rbefore))]) (args:=[ePat rAnd.1,.arr 5 20 0 (rb.2+rbefore.length) (rb.2+rbefore.length) ((rb.2+rbefore.length)*20)]) (zlu ax hx k rAnd.1 (rb.1++rbefore) rOutside2 e30 ) (And.intro (Or.inl rfl) (And.intro (zoo (fun x=>zbb x) (by decide) (by rfl) g29) (trivial))) (by first|rfl | (simp only [tupT,T.flat,T.flatL,ztp,zh6,Bool.and_self];done)));(try simp only [c22] at q);first|exact q | (simp only [Nat.add_mul,Nat.one_mul,za1] at q ⊢;exact q)),trivial⟩
       clear hh h;intro h hh;cases H4;exact ce hh ⟨kq hh,rfl⟩
      obtain ⟨g27,H4⟩:=isg H4;obtain ⟨rOutside,e28,H4⟩:=zad H4;repeat apply TW.seq
      refine dcg 3 [13] [] [] [(.arr 5 20 0 rb.2 rb.2 (rb.2*20),stL [.cells true 10 ((zA 10).l.map (T.int .i64)),.gone,.gone,.cells true 10 (x2.l.map (T.int .i64)),.gone,.cells false (rb.2*20) (vecC ePat rb.1)]),(lPat rbefore,stL [.cells true 10 ((zA 10).l.map (T.int .i64)),.gone,.gone,.cells true 10 (x2.l.map (T.int .i64)),.gone,.cells false (rb.2*20) (vecC ePat rb.1)]),(.tup [.agg (rOutside.1.l.map (T.int .i64)),.bool rOutside.2],stL [.cells true 10 ((zA 10).l.map (T.int .i64)),.gone,.gone,.cells true 10 (x2.l.map (T.int .i64)),.gone,.cells false (rb.2*20) (vecC ePat rb.1)])] [.cells true 10 ((zA 10).l.map (T.int .i64)),.gone,.gone,.cells true 10 (x2.l.map (T.int .i64)),.gone,.cells false (rb.2*20) (vecC ePat rb.1),.cells true 10 (rOutside.1.l.map (T.int .i64))] (fun h=>h 4=.ptr 0 0 10∧h 6=zao s_.1∧h 7=zao s_2.1∧h 8=.ptr 3 0 10∧h 9=.bool found2∧h 10=.int .i64 i∧h 11=.int .i64 k_∧h 15=.ptr 6 0 10∧h 16=.bool rOutside.2) (f3 hh c22 (f3 c26 (zew ePat rbefore) (f3 (zc7 (f:=ePat) (e:=20) (fun x=>zbb x) rbefore) (zd1 (f:=ePat) (fun x=>zmq x) rbefore) (f2 (zoz ax) (zuh ax))))) trivial ?_ ?_
      ·exact ⟨car [5] (zld ax hx k s_.1 i rb e23),zaj.call (Pure.clr (zjq ax hx k s_2.1 k_ rbefore e24 ) (by first|rfl|simp only [c22])),(by have q:=zaj.call (Pure.lend (S:=stL [.cells true 10 ((zA 10).l.map (T.int .i64)),.gone,.gone,.cells true 10 (x2.l.map (T.int .i64)),.gone,.cells false (rb.2*20) (vecC ePat rb.1)]) (args:=[ePat rAnd.1,.arr 5 20 0 rb.2 rb.2 (rb.2*20)]) (zlu ax hx k rAnd.1 rb.1 rOutside e28 ) (And.intro (Or.inl rfl) (And.intro (zoo (fun x=>zbb x) (by decide) (by rfl) g27) (trivial))) (by first|rfl | (simp only [tupT,T.flat,T.flatL,ztp,zh6,Bool.and_self];done)));(try simp only [c22] at q);first|exact q | (simp only [Nat.add_mul,Nat.one_mul,za1] at q ⊢;exact q)),trivial⟩
      clear hh h;intro h hh;cases H4;exact ce hh ⟨kq hh,rfl⟩
     clear hh h;rintro h bs ⟨hh,rfl⟩;obtain ⟨s_8,H4,H3⟩:=zad H3;repeat apply TW.seq
     refine cu [4,6,7,8,9,10,11,15,92] 7 (fun h bs=>(h 4=.ptr 0 0 10∧h 6=zao s_.1∧h 7=zao s_2.1∧h 8=.ptr 3 0 10∧h 9=.bool s_8.1∧h 10=.int .i64 i∧h 11=.int .i64 k_∧h 15=.ptr 6 0 10∧h 92=.bool s_8.2)∧bs=[.cells true 10 ((zA 10).l.map (T.int .i64)),.gone,.gone,.cells true 10 (x2.l.map (T.int .i64)),.gone,.cells false (s_7.2.2.1*20) (vecC ePat s_7.2.1),.cells true 10 (s_7.2.2.2.l.map (T.int .i64))]) ?_ ?_
     ·skip;rcases isb H4 with ⟨c31,H4⟩|⟨c31,H4⟩;rotate_left
      ·skip;repeat apply TW.seq
       refine rk [4,6,7,8,9,10,11,15,92] [] (f3 hh c31 c22) ?_;clear hh h;intro h hh;cases H4;exact ce hh ⟨kq hh,rfl⟩
      rcases isb H4 with ⟨c32,H4⟩|⟨c32,H4⟩;rotate_left
      ·skip;repeat apply TW.seq
       refine rk [4,6,7,8,9,10,11,15,92] [] (f3 hh c31 (f2 c32 c22)) ?_;clear hh h;intro h hh;cases H4;exact ce hh ⟨kq (f2 hh c32),rfl⟩
      obtain ⟨rCompareHeads,e33,H4⟩:=zad H4;repeat apply TW.seq
      refine rkc [4,6,7,8,9,10,11,15,92] [] [(.int .i64 rCompareHeads,stL [.cells true 10 ((zA 10).l.map (T.int .i64)),.gone,.gone,.cells true 10 (x2.l.map (T.int .i64)),.gone,.cells false (s_7.2.2.1*20) (vecC ePat s_7.2.1),.cells true 10 (s_7.2.2.2.l.map (T.int .i64))])] (f3 hh c31 (f2 c32 c22)) ?_ ?_
      ·exact ⟨zaj.call (Pure.clr (zid ax hx k s_7.2.2.2 x2 rCompareHeads e33 ) (by first|rfl|simp only [c22,c31,c32])),trivial⟩
      clear hh h;intro h hh;cases H4;exact ce hh ⟨kq (f2 hh c32),rfl⟩
     clear hh h;rintro h bs ⟨hh,rfl⟩;rcases isb H3 with ⟨c34,H3⟩|⟨c34,H3⟩;rotate_left
     ·skip;repeat apply TW.seq
      refine cf (f2 hh c34) ?_;repeat apply TW.seq
      refine sk ?_;repeat apply TW.seq
      refine rk [4,6,7,8,9,10,11] [] (f3 hh c22 c34) ?_;clear hh h;intro h hh;exact rd m hh ⟨s_8.1,(IntKind.i64.wrap (k_+1)),x2,H3,kq hh,rfl⟩
     repeat apply TW.seq
     refine ct (f2 hh c34) ?_;repeat apply TW.seq
     refine rk [4,6,7,8,10,11] [] (f3 hh c22 c34) ?_;clear hh h;intro h hh;repeat apply TW.seq
     refine rk [4,6,7,8,9,10,11] [] (f3 hh c22 c34) ?_;clear hh h;intro h hh;repeat apply TW.seq
     refine rk [4,6,7,8,9,10,11] [] (f3 hh c22 c34) ?_;clear hh h;intro h hh;exact rd m hh ⟨true,(IntKind.i64.wrap (k_+1)),s_7.2.2.2,H3,kq hh,rfl⟩
    repeat apply TW.seq
    refine ct (f2 hh c22) ?_;refine xk ?_;repeat apply TW.seq
    refine rk [4,6,7,8,9,10,11] [] (f2 hh c22) ?_;clear hh h;intro h hh;exact rd m hh ⟨found2,(IntKind.i64.wrap (k_+1)),x2,H3,kq hh,rfl⟩
   clear hh h;rintro h bs ⟨hh,rfl⟩;cases H2;exact ce hh ⟨kq hh,rfl⟩
  clear hh h;rintro h bs ⟨hh,rfl⟩;repeat apply TW.seq
  refine rk [4,6,7,8,9,10] [] hh ?_;clear hh h;intro h hh;exact rd m hh ⟨s_4.1,(IntKind.i64.wrap (i+1)),s_4.2,H1,kq hh,rfl⟩
 clear hh h;rintro h bs ⟨hh,rfl⟩;repeat apply TW.seq
 refine rk [4,5] [] hh ?_;clear hh h;intro h hh;cases H;exact rtc hh
end
section
open Go Go.RowKit
theorem yfs {k:Nat} {p q:Pat} (hp:zag p=true) (hq:zag q=true) (hk:10<k):∃ r,zkb k p q=some r∧((zdk p q=false∧r.2=false)∨(zdk p q=true∧r.2=true∧Meet p q r.1)):=by
  obtain ⟨pm,pb,pw⟩:=zai.1 hp;obtain ⟨qm,qb,qw⟩:=zai.1 hq
  have key:∀ (m i:Nat) (x y:Ar 10),i≤10→10 - i<m→(∀ s:Nat,s<10→gx x.l (s:Int)=((if s<i then hw p.mask s ||| hw q.mask s else hw p.mask s:Nat):Int)∧gx y.l (s:Int)=((if s<i then hw p.bits s ||| hw q.bits s else hw p.bits s:Nat):Int))→∃ x' y',zeg k q m (i:Int) x y=some (x',y')∧∀ s:Nat,s<10→gx x'.l (s:Int)=((hw p.mask s ||| hw q.mask s:Nat):Int)∧gx y'.l (s:Int)=((hw p.bits s ||| hw q.bits s:Nat):Int):=by
    intro m
    induction m with
    |zero=>intro i x y h1 h2;omega
    |succ m ih =>
      intro i x y h1 h2 hI;rw [zeg];by_cases c:i<10
      · obtain ⟨a1,a2⟩:=hI i c;rw [if_neg (Nat.lt_irrefl i)] at a1 a2;obtain ⟨b1,b2⟩:=zbh qm c;obtain ⟨c1,c2⟩:=zbh qb c;have d1:=(zbh pm c).2;have d2:=(zbh pb c).2;rw [if_pos (lt10 c),if_pos ⟨by omega,lt10 c⟩,a1,a2,b1,c1,z3a (by omega) (by omega),z3a (by omega) (by omega),zbm i (by omega)];refine ih (i+1) _ _ (by omega) (by omega) fun s hs=>?_;by_cases e:s=i
        · subst e;rw [zhs _ c,zhs _ c,if_pos (Nat.lt_succ_self s),if_pos (Nat.lt_succ_self s)];exact ⟨rfl,rfl⟩
        · rw [zki _ hs (fun h=>e h.symm),zki _ hs (fun h=>e h.symm)];obtain ⟨h3,h4⟩:=hI s hs;rw [h3,h4];by_cases f:s<i
          · rw [if_pos f,if_pos f,if_pos (by omega),if_pos (by omega)];exact ⟨rfl,rfl⟩
          · rw [if_neg f,if_neg f,if_neg (by omega),if_neg (by omega)];exact ⟨rfl,rfl⟩
      · obtain rfl:i=10:=by omega
        rw [if_neg (by decide)];refine ⟨x,y,rfl,fun s hs=>?_⟩;have:=hI s hs;rw [if_pos hs,if_pos hs] at this;exact this
  unfold zkb;rw [zqu hp hq hk,Option.bind_some]
  cases ho:zdk p q with
  |false=>exact ⟨_,by rw [if_neg (by simp)],.inl ⟨rfl,rfl⟩⟩
  |true =>
    obtain ⟨x',y',e,hI⟩:=key k 0 p.mask p.bits (by omega) (by omega) fun s hs=>by
      rw [if_neg (Nat.not_lt_zero s),if_neg (Nat.not_lt_zero s)];exact ⟨(zbh pm hs).1,(zbh pb hs).1⟩
    rw [if_pos rfl];change zeg k q k 0 p.mask p.bits=_ at e;rw [e,Option.bind_some];refine ⟨_,rfl,.inr ⟨rfl,rfl,?_⟩⟩;have lt:∀ {a b:Nat},a<65536→b<65536→a ||| b<65536:=fun {a b} ha hb=>Nat.or_lt_two_pow (n:=16) ha hb
    have h1:zab x'=true:=zjh fun j hj=>⟨_,(hI j hj).1,lt (zbh pm hj).2 (zbh qm hj).2⟩;have h2:zab y'=true:=zjh fun j hj=>⟨_,(hI j hj).2,lt (zbh pb hj).2 (zbh qb hj).2⟩
    have b1:∀ j,j<160→hbit x' j=(hbit p.mask j || hbit q.mask j):=fun j hj=>by
      have:=(hI (j / 16) (by omega)).1;unfold hbit
      have e:hw x' (j / 16)=hw p.mask (j / 16) ||| hw q.mask (j / 16):=by
        unfold hw at this ⊢;rw [this];rfl
      rw [e,Nat.testBit_or]
    have b2:∀ j,j<160→hbit y' j=(hbit p.bits j || hbit q.bits j):=fun j hj=>by
      have:=(hI (j / 16) (by omega)).2;unfold hbit
      have e:hw y' (j / 16)=hw p.bits (j / 16) ||| hw q.bits (j / 16):=by
        unfold hw at this ⊢;rw [this];rfl
      rw [e,Nat.testBit_or]
    refine ⟨h1,h2,b1,fun j hj=>?_⟩;show hbit y' j=_;rw [b2 j hj]
    cases hm:hbit q.mask j with
    |true =>
      rw [if_pos rfl]
      cases hpb:hbit p.bits j with
      |false=>rfl
      |true=>rw [← zh1.1 ho j hj (pw j hj hpb) hm,hpb];rfl
    |false =>
      rw [if_neg (by simp)]
      cases hqb:hbit q.bits j with
      |false=>rw [Bool.or_false]
      |true=>rw [qw j hj hqb] at hm;cases hm
theorem Meet.right {p q r:Pat} (h:Meet p q r) (hp:zag p=true) (hq:zag q=true):zag r=true:=by
  obtain ⟨pm,pb,pw⟩:=zai.1 hp;obtain ⟨qm,qb,qw⟩:=zai.1 hq;refine zai.2 ⟨h.mask,h.bits,fun i hi hb=>?_⟩;rw [h.hb i hi] at hb;rw [h.hm i hi]
  cases hm:hbit q.mask i with
  |true=>exact Bool.or_true _
  |false=>rw [hm,if_neg (by simp)] at hb;rw [pw i hi hb];rfl
theorem Meet.match {p q r:Pat} (h:Meet p q r) (ho:zdk p q=true) (x:Ar 10):zaq r x=true↔zaq p x=true∧zaq q x=true:=by
  rw [zar,zar,zar];constructor
  · intro hm;refine ⟨fun i hi h1=>?_,fun i hi h1=>?_⟩
    · have:=hm i hi (by rw [h.hm i hi,h1];rfl);rw [h.hb i hi] at this;by_cases c:hbit q.mask i=true
      · rw [if_pos c] at this;rw [zh1.1 ho i hi h1 c];exact this
      · rw [if_neg c] at this;exact this
    · have:=hm i hi (by rw [h.hm i hi,h1];exact Bool.or_true _);rw [h.hb i hi,if_pos h1] at this;exact this
  · rintro ⟨hp,hq⟩ i hi h1;rw [h.hb i hi];by_cases c:hbit q.mask i=true
    · rw [if_pos c];exact hq i hi c
    · rw [if_neg c];rw [h.hm i hi,Bool.or_eq_true] at h1;rcases h1 with h1|h1
      · exact hp i hi h1
      · exact absurd h1 c
theorem Meet.into {p q r:Pat} {F:List Nat} (h:Meet p q r) (hp:∀ j,j<160→hbit p.mask j=true→j∈F) (hq:∀ j,j<160→hbit q.mask j=true→j∈F):∀ j,j<160→hbit r.mask j=true→j∈F:=fun j hj hm=>by
  rw [h.hm j hj,Bool.or_eq_true] at hm;rcases hm with hm|hm
  · exact hp j hj hm
  · exact hq j hj hm
theorem zud {k:Nat} (t:List Rule) (n:Nat) (hn:n≤t.length) (ht:t.length≤5000) (hk:big≤k):zcp k t (n:Int)=some (bef t n,n):=by
  have key:∀ m j,j≤n→n - j<m→za2 k t (n:Int) m (j:Int) (bef t j++List.replicate (n - j) (⟨zA 10,zA 10⟩:Pat))=some (bef t n):=by
    intro m
    induction m with
    |zero=>intro j h1 h2;omega
    |succ m ih =>
      intro j h1 h2;rw [za2];have hl:=zjb (t:=t) (i:=j) (by omega);by_cases c:j<n
      · have ct:j<t.length:=by omega
        rw [if_pos (by omega),if_pos ⟨by omega,by omega⟩,if_pos ⟨by omega,by omega⟩,if_pos (by rw [List.length_append,List.length_replicate,hl];omega),zea ct,zbm j (by omega)];have:=ih (j+1) (by omega) (by omega);rw [zrv ct] at this;rw [show ((j:Int)).toNat=j by omega,List.set_append_right _ _ (by omega),hl,Nat.sub_self,show n - j=(n - (j+1))+1 by omega,List.replicate_succ,List.set_cons_zero];rw [List.append_assoc] at this;exact this
      · obtain rfl:j=n:=by omega
        rw [if_neg (by omega),Nat.sub_self,List.replicate_zero,List.append_nil]
  have:=key k 0 (Nat.zero_le _) (by simp only [big] at hk;omega);unfold zcp;rw [if_pos ⟨by omega,by omega⟩];rw [show ((0:Nat):Int)=0 from rfl,show bef t 0=[] from rfl,List.nil_append,Nat.sub_zero] at this;rw [show ((n:Int)).toNat=n by omega,this,Option.bind_some]
theorem zz0 {k:Nat} (t:List Rule) (n:Nat) (hn:n≤t.length) (ht:t.length≤5000) (hk:big≤k):zgx k t (n:Int)=some (bef t n,n):=by
  have key:∀ m j,j≤n→n - j<m→zcx k t (n:Int) m (j:Int) (bef t j) (bef t j).length=some (bef t n,(bef t n).length):=by
    intro m
    induction m with
    |zero=>intro j h1 h2;omega
    |succ m ih =>
      intro j h1 h2;rw [zcx];by_cases c:j<n
      · have ct:j<t.length:=by omega
        have hl:=zjb (t:=t) (i:=j) (by omega);rw [if_pos (by omega),if_pos ⟨by omega,by omega⟩,if_pos (by omega),zea ct,zbm j (by omega)];have:=ih (j+1) (by omega) (by omega);rw [zrv ct,List.length_append,List.length_singleton] at this;exact this
      · obtain rfl:j=n:=by omega
        rw [if_neg (by omega)]
  have:=key k 0 (Nat.zero_le _) (by simp only [big] at hk;omega);unfold zgx;rw [show ((0:Nat):Int)=0 from rfl,show bef t 0=[] from rfl,show (([]:List Pat).length)=0 from rfl] at this;rw [this,Option.bind_some,zjb hn]
end
section
open Go Go.RowKit
abbrev z7a (r s:Rule):Prop:=r.step=s.step∧r.outs=s.outs
structure Dif (a b:List Rule) (i j:Nat) (h:Ar 10):Prop where
  ne:¬ z7a (a.getD i default) (b.getD j default)
  one:Out (a.getD i default).mat (bef a i) h
  two:Out (b.getD j default).mat (bef b j) h
def U (n i j i' j':Nat):Prop:=j'<n∧(i'<i∨(i'=i∧j'<j))
def Acc (a b:List Rule) (P:Nat→Nat→Prop) (x:Ar 10) (f:Bool):Prop:=(f=true∧(∃ i j,P i j∧Dif a b i j x)∧∀ i j h,P i j→Dif a b i j h→¬ ltH h x)∨(f=false∧x=zA 10∧∀ i j h,P i j→¬ Dif a b i j h)
section
variable {a b:List Rule} {P P':Nat→Nat→Prop} {x y:Ar 10} {f:Bool} {i j:Nat}
theorem Acc.right (h:Acc a b P x f) (hf:f=true):zab x=true:=by
  rcases h with ⟨_,⟨i,j,_,d⟩,_⟩|⟨e,_,_⟩
  · exact d.one.right
  · rw [e] at hf;cases hf
theorem Acc.mono (h:Acc a b P x f) (h1:∀ i j,P i j→P' i j) (h2:∀ i j,P' i j→P i j):Acc a b P' x f:=by
  rcases h with ⟨e,⟨i,j,p,d⟩,l⟩|⟨e,z,n⟩
  · exact .inl ⟨e,⟨i,j,h1 _ _ p,d⟩,fun i j h p'=>l i j h (h2 _ _ p')⟩
  · exact .inr ⟨e,z,fun i j h p'=>n i j h (h2 _ _ p')⟩
theorem Acc.none (h:Acc a b P x f) (h1:∀ i j,P i j→P' i j) (h2:∀ i' j',P' i' j'→P i' j'∨(i'=i∧j'=j)) (hn:∀ h,¬ Dif a b i j h):Acc a b P' x f:=by
  rcases h with ⟨e,⟨i1,j1,p,d⟩,l⟩|⟨e,z,n⟩
  · refine .inl ⟨e,⟨i1,j1,h1 _ _ p,d⟩,fun i' j' h p' d'=>?_⟩;rcases h2 _ _ p' with q|⟨rfl,rfl⟩
    · exact l _ _ h q d'
    · exact absurd d' (hn h)
  · refine .inr ⟨e,z,fun i' j' h p' d'=>?_⟩;rcases h2 _ _ p' with q|⟨rfl,rfl⟩
    · exact n _ _ h q d'
    · exact hn h d'
theorem Acc.keep (h:Acc a b P x true) (h1:∀ i j,P i j→P' i j) (h2:∀ i' j',P' i' j'→P i' j'∨(i'=i∧j'=j)) (hy:Dif a b i j y) (hl:∀ h,Dif a b i j h→¬ ltH h y) (hc:¬ ltH y x):Acc a b P' x true:=by
  have hx:=h.right rfl;rcases h with ⟨e,⟨i1,j1,p,d⟩,l⟩|⟨e,_,_⟩
  · refine .inl ⟨rfl,⟨i1,j1,h1 _ _ p,d⟩,fun i' j' h p' d'=>?_⟩;rcases h2 _ _ p' with q|⟨rfl,rfl⟩
    · exact l _ _ h q d'
    · intro hlt;rcases zrg hy.one.right hx with w|w|w
      · rw [w] at hl;exact hl h d' hlt
      · exact hc w
      · exact hl h d' (zom hlt w)
  · cases e
theorem Acc.take (h:Acc a b P x f) (h1:∀ i j,P i j→P' i j) (h2:∀ i' j',P' i' j'→P i' j'∨(i'=i∧j'=j)) (hp:P' i j) (hy:Dif a b i j y) (hl:∀ h,Dif a b i j h→¬ ltH h y) (hc:f=true→ltH y x):Acc a b P' y true:=by
  refine .inl ⟨rfl,⟨i,j,hp,hy⟩,fun i' j' h' p' d'=>?_⟩;rcases h2 _ _ p' with q|⟨rfl,rfl⟩
  · rcases h with ⟨e,_,l⟩|⟨_,_,n⟩
    · exact fun hlt=>l _ _ h' q d' (zom hlt (hc e))
    · exact absurd d' (n _ _ h' q)
  · exact hl h' d'
theorem Acc.uniq {f g:Bool} (h:Acc a b P x f) (k:Acc a b P y g):x=y∧f=g:=by
  rcases h with ⟨e,⟨i1,j1,p,d⟩,l⟩|⟨e,z,n⟩<;>rcases k with ⟨e',⟨i2,j2,p',d'⟩,l'⟩|⟨e',z',n'⟩
  · refine ⟨?_,by rw [e,e']⟩;rcases zrg d.one.right d'.one.right with w|w|w
    · exact w
    · exact absurd w (l' _ _ _ p d)
    · exact absurd w (l _ _ _ p' d')
  · exact absurd d (n' _ _ _ p)
  · exact absurd d' (n _ _ _ p')
  · exact ⟨by rw [z,z'],by rw [e,e']⟩
theorem Dif.symm {h:Ar 10} (d:Dif a b i j h):Dif b a j i h:=⟨fun ⟨p,q⟩=>d.ne ⟨p.symm,q.symm⟩,d.two,d.one⟩
def zm8 (a b:List Rule) (x:Ar 10) (f:Bool):Prop:=Acc a b (fun i j=>i<a.length∧j<b.length) x f
theorem zm8.symm (h:zm8 a b x f):zm8 b a x f:=by
  rcases h with ⟨e,⟨i1,j1,p,d⟩,l⟩|⟨e,z,n⟩
  · exact .inl ⟨e,⟨j1,i1,⟨p.2,p.1⟩,d.symm⟩,fun i j h p d=>l j i h ⟨p.2,p.1⟩ d.symm⟩
  · exact .inr ⟨e,z,fun i j h p d=>n j i h ⟨p.2,p.1⟩ d.symm⟩
theorem U.step {n i j:Nat} (hj:j<n):(∀ i' j',U n i j i' j'→U n i (j+1) i' j')∧(∀ i' j',U n i (j+1) i' j'→U n i j i' j'∨(i'=i∧j'=j))∧U n i (j+1) i j:=by
  unfold U;refine ⟨fun i' j' h=>?_,fun i' j' h=>?_,?_⟩<;>omega
theorem Acc.row {n:Nat} (h:Acc a b (U n i n) x f):Acc a b (U n (i+1) 0) x f:=h.mono (fun i' j' h=>by unfold U at h ⊢;omega) fun i' j' h=>by unfold U at h ⊢;omega
theorem Acc.all (h:Acc a b (U b.length a.length 0) x f):zm8 a b x f:=h.mono (fun i' j' h=>by unfold U at h;exact ⟨by omega,h.1⟩) fun i' j' h=>by unfold U;exact ⟨h.2,by omega⟩
theorem Acc.zero:Acc a b (U b.length 0 0) (zA 10) false:=.inr ⟨rfl,rfl,fun i j h p=>by unfold U at p;omega⟩
theorem zx9 {p q m:Pat} {l1 l2:List Pat} {h:Ar 10} (hm:Meet p q m) (ho:zdk p q=true):Out m (l1++l2) h↔Out p l1 h∧Out q l2 h:=by
  constructor
  · intro k;obtain ⟨k1,k2⟩:=(hm.match ho h).1 k.into;exact ⟨⟨k.right,k1,fun q hq=>k.no q (List.mem_append_left _ hq)⟩,⟨k.right,k2,fun q hq=>k.no q (List.mem_append_right _ hq)⟩⟩
  · rintro ⟨k1,k2⟩;exact ⟨k1.right,(hm.match ho h).2 ⟨k1.into,k2.into⟩,fun q hq=>(List.mem_append.1 hq).elim (k1.no q) (k2.no q)⟩
theorem z41 {m:Pat} {r:Ar 10×Bool} (hne:¬ z7a (a.getD i default) (b.getD j default)) (hm:Meet (a.getD i default).mat (b.getD j default).mat m) (ho:zdk (a.getD i default).mat (b.getD j default).mat=true) (hr:Res m (bef a i++bef b j) r):(r.2=true∧Dif a b i j r.1∧∀ h,Dif a b i j h→¬ ltH h r.1)∨(r.2=false∧∀ h,¬ Dif a b i j h):=by
  rcases hr with ⟨e,q⟩|⟨e,q⟩
  · obtain ⟨o1,o2⟩:=(zx9 hm ho).1 q.out;exact .inl ⟨e,⟨hne,o1,o2⟩,fun h d=>q.least h ((zx9 hm ho).2 ⟨d.one,d.two⟩)⟩
  · exact .inr ⟨by rw [e],fun h d=>q h ((zx9 hm ho).2 ⟨d.one,d.two⟩)⟩
theorem yav (ho:zdk (a.getD i default).mat (b.getD j default).mat=false):∀ h,¬ Dif a b i j h:=fun h d=>by
  have:=zx8 d.one.into d.two.into;rw [ho] at this;cases this
theorem yaf {O:Pat→List Pat→Option (Ar 10×Bool)} {m:Pat} {l1 l2:List Pat} {n1:Nat} {r:Ar 10×Bool} (e:l1.length=n1) (hb:(n1+l2.length)*161≤1000000000) (h:O m (l1++l2)=some r):(if (n1+l2.length)*161≤1000000000 then (if l2.length=0 then (if l1.length=n1 then ((O m l1).bind fun r=>some (r.2,l1,n1,r.1)) else none) else (if (l1++l2).length=n1+l2.length then ((O m (l1++l2)).bind fun r2=>some (r2.2,l1++l2,n1+l2.length,r2.1)) else none)) else none)=some (r.2,l1++l2,n1+l2.length,r.1):=by
  rw [if_pos hb];by_cases c:l2.length=0
  · have:=List.eq_nil_of_length_eq_zero c;subst this;rw [List.append_nil] at h;rw [if_pos c,if_pos e,h,Option.bind_some,List.append_nil];rfl
  · rw [if_neg c,if_pos (by rw [List.length_append,e]),h,Option.bind_some]
theorem yd9 (r:Rule):(⟨r.prio,r.mat,r.step,r.outs⟩:Rule)=r:=rfl
theorem ylw {k:Nat} {h x:Ar 10} {f:Bool} (hh:zab h=true) (hx:f=true→zab x=true) (hk:10<k):∃ y,zey k h f x=some (true,y)∧((y=h∧(f=true→ltH h x))∨(f=true∧y=x∧¬ ltH h x)):=by
  unfold zey
  cases f with
  |false=>exact ⟨h,by rw [if_neg (by simp)],.inl ⟨rfl,fun q=>by cases q⟩⟩
  |true =>
    obtain ⟨c,e,hc⟩:=zkl (k:=k) hh (hx rfl) hk;rw [if_pos rfl,e,Option.bind_some];by_cases q:c<0
    · exact ⟨h,by rw [if_pos q],.inl ⟨rfl,fun _=>hc.neg.1 q⟩⟩
    · exact ⟨x,by rw [if_neg q],.inr ⟨rfl,rfl,fun w=>q (hc.neg.2 w)⟩⟩
end
def rst:Rule:=⟨0,⟨zA 10,zA 10⟩,-1,[]⟩
section
variable {k:Nat} {t u a b:List Rule} {F:List Nat}
theorem zyh (ha:Lit a F) (i:Nat):(∀ q,q∈bef a i→zag q=true)∧∀ q,q∈bef a i→∀ j,j<160→hbit q.mask j=true→j∈F :=
  ⟨fun q hq=>by obtain ⟨r,hr,rfl⟩:=z21 hq;exact ha.right r hr,fun q hq=>by obtain ⟨r,hr,rfl⟩:=z21 hq;exact ha.mask r hr⟩
theorem yk7 (ea:t++[(⟨0,(⟨(zA 10),(zA 10)⟩:Pat),(-1),[]⟩:Rule)]=a) (eb:u++[(⟨0,(⟨(zA 10),(zA 10)⟩:Pat),(-1),[]⟩:Rule)]=b) (ha:Lit a F) (hb:Lit b F) (la:a.length≤400) (lb:b.length≤400) (oa:∀ r,r∈a→zkf r) (hk:big≤k) {i:Nat} (hi:i<a.length):∀ (m j:Nat) (x:Ar 10) (f:Bool),j≤b.length→b.length - j<m→Acc a b (U b.length i j) x f→∃ x' f',zbj k t u (i:Int) m (j:Int) x f=some (x',f')∧Acc a b (U b.length (i+1) 0) x' f':=by
  have hk10:10<k:=Nat.lt_of_lt_of_le (by decide) hk;intro m
  induction m with
  |zero=>intro j x f h1 h2;omega
  |succ m ih =>
    intro j x f h1 h2 hA;rw [zbj];simp only [ea,eb,yd9];by_cases c:j<b.length
    · have hp:=ha.right _ (zg6 hi);have hq:=hb.right _ (zg6 c);obtain ⟨u1,u2,u3⟩:=U.step (i:=i) c;rw [if_pos (zam c),if_pos ⟨by omega,zam c⟩,znc,znc,zr4 _ _ (oa _ (zg6 hi)) hk,Option.bind_some,zbm j (by omega)];by_cases al:z7a (a.getD i default) (b.getD j default)
      · rw [if_pos (decide_eq_true al)];exact ih (j+1) x f (by omega) (by omega) (hA.none u1 u2 fun h d=>d.ne al)
      · rw [if_neg (by rw [decide_eq_true_eq];exact al)];obtain ⟨r,e,hr⟩:=yfs (k:=k) hp hq hk10;rw [e,Option.bind_some];rcases hr with ⟨ho,h2⟩|⟨ho,h2,hm⟩
        · rw [h2,if_neg (by simp)];exact ih (j+1) x f (by omega) (by omega) (hA.none u1 u2 (yav ho))
        · obtain ⟨l1,l2⟩:=zyh ha i;obtain ⟨l3,l4⟩:=zyh hb j;have b1:=zjb (t:=a) (i:=i) (by omega);have b2:=zjb (t:=b) (i:=j) (by omega);obtain ⟨s,e2,hs⟩:=z12 hk (hm.right hp hq) (l:=bef a i++bef b j) (fun q h=>(List.mem_append.1 h).elim (l1 q) (l3 q)) (by rw [List.length_append];omega);have er:=yaf (O:=zds k) (n1:=i) b1 (by omega) e2;rw [h2,if_pos rfl,zud a i (by omega) (by omega) hk,Option.bind_some,zzc b j (by omega) (by omega) hk,Option.bind_some];dsimp only;rw [er,Option.bind_some];rcases z41 al hm ho hs with ⟨q1,q2,q3⟩|⟨q1,q2⟩
          · rw [if_pos q1];obtain ⟨y,ey,hy⟩:=ylw (k:=k) (f:=f) q2.one.right hA.right hk10;dsimp only;rw [ey,Option.bind_some];refine ih (j+1) y true (by omega) (by omega) ?_;rcases hy with ⟨rfl,hc⟩|⟨rfl,rfl,hc⟩
            · exact hA.take u1 u2 u3 q2 q3 hc
            · exact hA.keep u1 u2 q2 q3 hc
          · rw [if_neg (by rw [q1];simp)];exact ih (j+1) x f (by omega) (by omega) (hA.none u1 u2 q2)
    · obtain rfl:j=b.length:=by omega
      rw [if_neg (by omega)];exact ⟨x,f,rfl,hA.row⟩
theorem yk8 (ea:t++[(⟨0,(⟨(zA 10),(zA 10)⟩:Pat),(-1),[]⟩:Rule)]=a) (eb:u++[(⟨0,(⟨(zA 10),(zA 10)⟩:Pat),(-1),[]⟩:Rule)]=b) (ha:Lit a F) (hb:Lit b F) (la:a.length≤400) (lb:b.length≤400) (oa:∀ r,r∈a→zkf r) (hk:big≤k):∀ (m i:Nat) (x:Ar 10) (f:Bool),i≤a.length→a.length - i<m→Acc a b (U b.length i 0) x f→∃ x' f',zcq k t u m (i:Int) x f=some (x',f')∧zm8 a b x' f':=by
  intro m
  induction m with
  |zero=>intro i x f h1 h2;omega
  |succ m ih =>
    intro i x f h1 h2 hA;rw [zcq];simp only [ea];by_cases c:i<a.length
    · obtain ⟨x1,f1,e,h⟩:=yk7 ea eb ha hb la lb oa hk c k 0 x f (Nat.zero_le _) (by simp only [big] at hk;omega) hA;change zbj k t u (i:Int) k 0 x f=_ at e;rw [if_pos (zam c),if_pos ⟨by omega,zam c⟩,e,Option.bind_some,Option.bind_some,zbm i (by omega)];exact ih (i+1) x1 f1 (by omega) (by omega) h
    · obtain rfl:i=a.length:=by omega
      rw [if_neg (by omega)];exact ⟨x,f,rfl,hA.all⟩
theorem zyg (ht:Lit t F) (hl:t.length≤300):Lit (t++[rst]) F:=by
  refine ⟨by rw [List.length_append,List.length_singleton];omega,fun r hr=>?_,ht.few,fun r hr j hj h=>?_⟩
  · rcases List.mem_append.1 hr with q|q
    · exact ht.right r q
    · cases List.mem_singleton.1 q;decide
  · rcases List.mem_append.1 hr with q|q
    · exact ht.mask r q j hj h
    · cases List.mem_singleton.1 q
      have:hbit (zA 10) j=false:=by
        have z:∀ s,s<10→hw (zA 10) s=0:=by decide
        unfold hbit;rw [z (j / 16) (by omega)];exact Nat.zero_testBit _
      rw [show hbit rst.mat.mask j=hbit (zA 10) j from rfl,this] at h;cases h
theorem yg2 (ht:zq1 t):∀ r,r∈t++[rst]→zkf r:=fun r hr=>by
  rcases List.mem_append.1 hr with q|q
  · exact ht.2 r q
  · cases List.mem_singleton.1 q;exact ⟨by decide,fun l hl=>by cases hl⟩
theorem znh (ht:Lit t F) (hu:Lit u F) (lt:t.length≤300) (lu:u.length≤300) (ot:zq1 t) (hk:big≤k):∃ x f,zfd k t u=some (x,!f)∧zm8 (t++[rst]) (u++[rst]) x f:=by
  obtain ⟨x,f,e,h⟩:=yk8 (t:=t) (u:=u) rfl rfl (zyg ht lt) (zyg hu lu) (by simp;omega) (by simp;omega) (yg2 ot) hk k 0 (zA 10) false (Nat.zero_le _) (by simp only [big] at hk;rw [List.length_append,List.length_singleton];omega) Acc.zero;refine ⟨x,f,?_,h⟩;unfold zfd;change zcq k t u k 0 (zA 10) false=_ at e;rw [if_pos (by omega),if_pos (by omega),if_pos (by omega),if_pos (by omega),if_pos (by rw [List.length_append,List.length_singleton]),if_pos (by rw [List.length_append,List.length_singleton]),e];rfl
theorem ylg {sa sb:List Rule×Nat} (ea:sa.1=a) (eb:sb.1=b) (ha:Lit a F) (hb:Lit b F) (la:a.length≤400) (lb:b.length≤400) (oa:∀ r,r∈a→zkf r) (hk:big≤k) {i:Nat} (hi:i<a.length):∀ (m j:Nat) (x:Ar 10) (f:Bool),j≤b.length→b.length - j<m→Acc a b (U b.length i j) x f→∃ x' f',zcm k sa sb (i:Int) m f (j:Int) x=some (f',x')∧Acc a b (U b.length (i+1) 0) x' f':=by
  have hk10:10<k:=Nat.lt_of_lt_of_le (by decide) hk;have hk160:160<k:=Nat.lt_of_lt_of_le (by decide) hk;intro m
  induction m with
  |zero=>intro j x f h1 h2;omega
  |succ m ih =>
    intro j x f h1 h2 hA;rw [zcm];simp only [ea,eb];by_cases c:j<b.length
    · have hp:=ha.right _ (zg6 hi);have hq:=hb.right _ (zg6 c);obtain ⟨u1,u2,u3⟩:=U.step (i:=i) c;obtain ⟨r,e,hr⟩:=yao (k:=k) hp hq hk160;rw [if_pos (zam c),if_pos ⟨by omega,zam hi⟩,if_pos ⟨by omega,zam c⟩,znc,znc,yah _ _ (oa _ (zg6 hi)) hk,Option.bind_some,e,Option.bind_some,zbm j (by omega)];by_cases al:z7a (a.getD i default) (b.getD j default)
      · rw [if_pos (decide_eq_true al),Option.bind_some,if_pos rfl];exact ih (j+1) x f (by omega) (by omega) (hA.none u1 u2 fun h d=>d.ne al)
      · rw [if_neg (by rw [decide_eq_true_eq];exact al),Option.bind_some];rcases hr with ⟨ho,h2⟩|⟨ho,h2,hm⟩
        · rw [h2,if_pos (by simp)];exact ih (j+1) x f (by omega) (by omega) (hA.none u1 u2 (yav ho))
        · obtain ⟨l1,l2⟩:=zyh ha i;obtain ⟨l3,l4⟩:=zyh hb j;have b1:=zjb (t:=a) (i:=i) (by omega);have b2:=zjb (t:=b) (i:=j) (by omega);obtain ⟨s,e2,hs⟩:=z2v (k:=k) ha.few (hm.right hp hq) (hm.into (ha.mask _ (zg6 hi)) (hb.mask _ (zg6 c))) (l:=bef a i++bef b j) (fun q h=>(List.mem_append.1 h).elim (l1 q) (l3 q)) (fun q h=>(List.mem_append.1 h).elim (l2 q) (l4 q)) (by rw [List.length_append];omega) hk;have er:=yaf (O:=zfg k) (n1:=i) b1 (by omega) e2;rw [h2,if_neg (by simp),zz0 a i (by omega) (by omega) hk,Option.bind_some,zvn b j (by omega) (by omega) hk,Option.bind_some];dsimp only;rw [er,Option.bind_some];dsimp only;rcases z41 al hm ho hs with ⟨q1,q2,q3⟩|⟨q1,q2⟩
          · rw [if_pos q1]
            cases f with
            |false =>
              rw [if_neg (by simp),Option.bind_some,if_pos rfl];exact ih (j+1) _ true (by omega) (by omega) (hA.take u1 u2 u3 q2 q3 fun h=>by cases h)
            |true =>
              obtain ⟨cc,ec,hc⟩:=zlf (k:=k) q2.one.right (hA.right rfl) hk10;rw [if_pos rfl,ec,Option.bind_some,Option.bind_some];by_cases q:cc<0
              · rw [if_pos (decide_eq_true q)];exact ih (j+1) _ true (by omega) (by omega) (hA.take u1 u2 u3 q2 q3 fun _=>hc.neg.1 q)
              · rw [if_neg (by rw [decide_eq_true_eq];exact q)];exact ih (j+1) x true (by omega) (by omega) (hA.keep u1 u2 q2 q3 fun w=>q (hc.neg.2 w))
          · rw [if_neg (by rw [q1];simp),Option.bind_some,if_neg (by simp)];exact ih (j+1) x f (by omega) (by omega) (hA.none u1 u2 q2)
    · obtain rfl:j=b.length:=by omega
      rw [if_neg (by omega)];exact ⟨x,f,rfl,hA.row⟩
theorem ylh {sa sb:List Rule×Nat} (ea:sa.1=a) (eb:sb.1=b) (ha:Lit a F) (hb:Lit b F) (la:a.length≤400) (lb:b.length≤400) (oa:∀ r,r∈a→zkf r) (hk:big≤k):∀ (m i:Nat) (x:Ar 10) (f:Bool),i≤a.length→a.length - i<m→Acc a b (U b.length i 0) x f→∃ x' f',zdp k sa sb m f (i:Int) x=some (f',x')∧zm8 a b x' f':=by
  intro m
  induction m with
  |zero=>intro i x f h1 h2;omega
  |succ m ih =>
    intro i x f h1 h2 hA;rw [zdp,ea];by_cases c:i<a.length
    · obtain ⟨x1,f1,e,h⟩:=ylg ea eb ha hb la lb oa hk c k 0 x f (Nat.zero_le _) (by simp only [big] at hk;omega) hA;change zcm k sa sb (i:Int) k f 0 x=_ at e;rw [if_pos (zam c),e,Option.bind_some,Option.bind_some,zbm i (by omega)];exact ih (i+1) x1 f1 (by omega) (by omega) h
    · obtain rfl:i=a.length:=by omega
      rw [if_neg (by omega)];exact ⟨x,f,rfl,hA.all⟩
theorem z4w {k:Nat} (t:List Rule) (ht:t.length≤300):(if (0+t.length)*201≤1000000000 then (if t.length=0 then ((zgw k).bind fun rrest=>(if (0+1)*201≤1000000000 then some ([rrest],1) else none)) else ((zgw k).bind fun rrest2=>(if (t.length+1)*201≤1000000000 then some (t++[rrest2],t.length+1) else none))) else none:Option (List Rule×Nat))=some (t++[rst],t.length+1):=by
  unfold zgw;rw [if_pos (by omega)];by_cases c:t.length=0
  · have:=List.eq_nil_of_length_eq_zero c;subst this;rw [if_pos c];rfl
  · rw [if_neg c,Option.bind_some,if_pos (by omega)];rfl
theorem yaj (ht:Lit t F) (hu:Lit u F) (lt:t.length≤300) (lu:u.length≤300) (ot:zq1 t) (hk:big≤k):∃ x f,zj3 k t u=some (x,!f)∧zm8 (t++[rst]) (u++[rst]) x f:=by
  obtain ⟨x,f,e,h⟩:=ylh (k:=k) (sa:=(t++[rst],t.length+1)) (sb:=(u++[rst],u.length+1)) rfl rfl (zyg ht lt) (zyg hu lu) (by simp;omega) (by simp;omega) (yg2 ot) hk k 0 (zA 10) false (Nat.zero_le _) (by simp only [big] at hk;rw [List.length_append,List.length_singleton];omega) Acc.zero;refine ⟨x,f,?_,h⟩;unfold zj3;change zdp k (t++[rst],t.length+1) (u++[rst],u.length+1) k false 0 (zA 10)=_ at e;rw [z4w t lt,Option.bind_some,if_pos (by simp),z4w u lu,Option.bind_some,if_pos (by simp),e];rfl
end
end
section
open Go Go.RowKit
theorem z5g (t:List Rule) (h:Ar 10):(zq2 t h=-1∧t.find? (fun r=>zaq r.mat h)=none)∨∃ i:Nat,∃ hi:i<t.length,zq2 t h=(i:Int)∧t.find? (fun r=>zaq r.mat h)=some t[i]∧zaq t[i].mat h=true∧∀ j (hj:j<t.length),j<i→zaq t[j].mat h=false:=by
  unfold zq2;rcases z6c (fun r:Rule=>zaq r.mat h) t with ⟨e1,e2⟩|⟨i,hi,e1,e2⟩
  · exact .inl ⟨e2,e1⟩
  · refine .inr ⟨i,hi,e1,e2,?_⟩;unfold idxB at e1
    cases hf:t.findIdx? (fun r:Rule=>zaq r.mat h) with
    |none=>rw [hf] at e1;simp only at e1;omega
    |some s =>
      rw [hf] at e1;simp only at e1;obtain rfl:s=i:=by omega
      obtain ⟨h1,h2,h3⟩:=List.findIdx?_eq_some_iff_getElem.1 hf;exact ⟨h2,fun j hj hji=>by simpa using h3 j hji⟩
theorem zno {t:List Rule} {i:Nat} (hi:i≤t.length) {q:Pat}:q∈bef t i↔∃ j,∃ hj:j<t.length,j<i∧t[j].mat=q:=by
  unfold bef;rw [List.mem_map];constructor
  · rintro ⟨r,hr,rfl⟩;obtain ⟨j,hj,rfl⟩:=List.getElem_of_mem hr;rw [List.length_take] at hj;exact ⟨j,by omega,by omega,by rw [List.getElem_take]⟩
  · rintro ⟨j,hj,hji,rfl⟩;exact ⟨t[j],by rw [List.mem_take_iff_getElem];exact ⟨j,by omega,rfl⟩,rfl⟩
theorem yjr {t:List Rule} {i:Nat} (hi:i<t.length) {h:Ar 10}:Out t[i].mat (bef t i) h↔zab h=true∧zaq t[i].mat h=true∧∀ j (hj:j<t.length),j<i→zaq t[j].mat h=false:=by
  constructor
  · rintro ⟨a,b,c⟩;exact ⟨a,b,fun j hj hji=>c _ ((zno (by omega)).2 ⟨j,hj,hji,rfl⟩)⟩
  · rintro ⟨a,b,c⟩;refine ⟨a,b,fun q hq=>?_⟩;obtain ⟨j,hj,hji,rfl⟩:=(zno (by omega)).1 hq;exact c j hj hji
end
section
open Go Go.RowKit
set_option maxRecDepth 100000
def za0 (k:Nat) (h_:Ar 10) (fv:List Rule) (fv2:List Rule):Option Bool:=((zfq k fv h_).bind fun rLookup=>(((if 0≤rLookup then (if (0:Int)≤rLookup∧rLookup<(fv.length:Int) then some ((gx fv rLookup).prio,((gx fv rLookup).mat).mask,((gx fv rLookup).mat).bits,(gx fv rLookup).step,(gx fv rLookup).outs) else none) else some (0,(zA 10),(zA 10),(-1),[])):Option (Int×Ar 10×Ar 10×Int×List (List Alt))).bind fun s_=>((zfq k fv2 h_).bind fun rLookup2=>(((if 0≤rLookup2 then (if (0:Int)≤rLookup2∧rLookup2<(fv2.length:Int) then some ((gx fv2 rLookup2).prio,((gx fv2 rLookup2).mat).mask,((gx fv2 rLookup2).mat).bits,(gx fv2 rLookup2).step,(gx fv2 rLookup2).outs) else none) else some (0,(zA 10),(zA 10),(-1),[])):Option (Int×Ar 10×Ar 10×Int×List (List Alt))).bind fun s_2=>((zfb k (⟨1,(⟨(zA 10),(zA 10)⟩:Pat),s_.2.2.2.1,s_.2.2.2.2⟩:Rule) (⟨1,(⟨(zA 10),(zA 10)⟩:Pat),s_2.2.2.2.1,s_2.2.2.2.2⟩:Rule)).bind fun rSameRule=>some rSameRule)))))
set_option maxHeartbeats 8000000 in
theorem zbn (ax:Axs) (hx:zbx ax) (k:Nat) (h_:Ar 10) (fv:List Rule) (fv2:List Rule) (v:Bool) (H:za0 k h_ fv fv2=some v):Pure Tryz.prog (EE ax) [] 38 [.agg (h_.l.map (T.int .i64)),.cp [zao fv],.cp [zao fv2]] (.bool v):=by
 rw [za0] at H;refine en [.tmp 4] 38 [0,1,2] (hx.no _ (by decide)) (fn38 ax) ?_;intro h hh;repeat apply TW.seq
 refine rk [1,2,3] [] hh ?_;clear hh h;intro h hh;repeat apply TW.seq
 refine rk [1,2,3,5,6] [] hh ?_;clear hh h;intro h hh;obtain ⟨rLookup,e1,H⟩:=zad H;repeat apply TW.seq
 refine rkc [1,2,3,5,6,7] [] [(.int .i64 rLookup,stL [.cells true 10 (h_.l.map (T.int .i64)),.cells true 23 (T.int .i64 0 :: ((zA 10).l.map (T.int .i64)++((zA 10).l.map (T.int .i64)++[T.int .i64 (-1),T.nils]))),.cells true 23 (T.int .i64 0 :: ((zA 10).l.map (T.int .i64)++((zA 10).l.map (T.int .i64)++[T.int .i64 (-1),T.nils])))])] hh ?_ ?_
 ·exact ⟨zaj.call ((zlc ax hx k fv h_ rLookup e1 ).call _),trivial⟩
 clear hh h;intro h hh;repeat apply TW.seq
 refine rk [1,2,3,5,6,7,15] [] hh ?_;clear hh h;intro h hh;repeat apply TW.seq
 refine nz 1 22 1 ?_;obtain ⟨s_,H1,H⟩:=zad H;repeat apply TW.seq
 refine cu [2,3,5,6] 3 (fun h bs=>(h 2=.cp [zao fv2]∧h 3=.ptr 0 0 10∧h 5=.ptr 1 0 23∧h 6=.ptr 2 0 23)∧bs=[.cells true 10 (h_.l.map (T.int .i64)),.cells true 23 (T.int .i64 s_.1 :: (s_.2.1.l.map (T.int .i64)++(s_.2.2.1.l.map (T.int .i64)++[T.int .i64 s_.2.2.2.1,za4 s_.2.2.2.2]))),.cells true 23 (T.int .i64 0 :: ((zA 10).l.map (T.int .i64)++((zA 10).l.map (T.int .i64)++[T.int .i64 (-1),T.nils])))]) ?_ ?_
 ·skip;rcases isp H1 with ⟨c2,H1⟩|⟨c2,H1⟩;rotate_left
  ·skip;repeat apply TW.seq
   refine cf (f2 hh (decide_eq_false c2)) ?_;repeat apply TW.seq
   refine sk ?_;cases H1;exact ce hh ⟨kq hh,rfl⟩
  repeat apply TW.seq
  refine ct (f2 hh (decide_eq_true c2)) ?_;obtain ⟨g3,H1⟩:=isg H1;repeat apply TW.seq
  refine rk [2,3,5,6] [] (f2 hh (zal g3)) ?_;clear hh h;intro h hh;cases H1;exact ce hh ⟨kq hh,rfl⟩
 clear hh h;rintro h bs ⟨hh,rfl⟩;obtain ⟨rLookup2,e4,H⟩:=zad H;repeat apply TW.seq
 refine rkc [2,5,6,8] [] [(.int .i64 rLookup2,stL [.cells true 10 (h_.l.map (T.int .i64)),.cells true 23 (T.int .i64 s_.1 :: (s_.2.1.l.map (T.int .i64)++(s_.2.2.1.l.map (T.int .i64)++[T.int .i64 s_.2.2.2.1,za4 s_.2.2.2.2]))),.cells true 23 (T.int .i64 0 :: ((zA 10).l.map (T.int .i64)++((zA 10).l.map (T.int .i64)++[T.int .i64 (-1),T.nils])))])] hh ?_ ?_
 ·exact ⟨zaj.call ((zlc ax hx k fv2 h_ rLookup2 e4 ).call _),trivial⟩
 clear hh h;intro h hh;repeat apply TW.seq
 refine rk [2,5,6,8,24] [] hh ?_;clear hh h;intro h hh;repeat apply TW.seq
 refine nz 2 22 1 ?_;obtain ⟨s_2,H1,H⟩:=zad H;repeat apply TW.seq
 refine cu [5,6] 3 (fun h bs=>(h 5=.ptr 1 0 23∧h 6=.ptr 2 0 23)∧bs=[.cells true 10 (h_.l.map (T.int .i64)),.cells true 23 (T.int .i64 s_.1 :: (s_.2.1.l.map (T.int .i64)++(s_.2.2.1.l.map (T.int .i64)++[T.int .i64 s_.2.2.2.1,za4 s_.2.2.2.2]))),.cells true 23 (T.int .i64 s_2.1 :: (s_2.2.1.l.map (T.int .i64)++(s_2.2.2.1.l.map (T.int .i64)++[T.int .i64 s_2.2.2.2.1,za4 s_2.2.2.2.2])))]) ?_ ?_
 ·skip;rcases isp H1 with ⟨c5,H1⟩|⟨c5,H1⟩;rotate_left
  ·skip;repeat apply TW.seq
   refine cf (f2 hh (decide_eq_false c5)) ?_;repeat apply TW.seq
   refine sk ?_;cases H1;exact ce hh ⟨kq hh,rfl⟩
  repeat apply TW.seq
  refine ct (f2 hh (decide_eq_true c5)) ?_;obtain ⟨g6,H1⟩:=isg H1;repeat apply TW.seq
  refine rk [5,6] [] (f2 hh (zal g6)) ?_;clear hh h;intro h hh;cases H1;exact ce hh ⟨kq hh,rfl⟩
 clear hh h;rintro h bs ⟨hh,rfl⟩;repeat apply TW.seq
 refine rk [5,6] [] hh ?_;clear hh h;intro h hh;repeat apply TW.seq
 refine rk [5,6] [] hh ?_;clear hh h;intro h hh;obtain ⟨rSameRule,e7,H⟩:=zad H;repeat apply TW.seq
 refine rkc [4] [] [(.bool rSameRule,stL [.cells true 10 (h_.l.map (T.int .i64)),.cells true 23 (T.int .i64 1 :: ((zA 10).l.map (T.int .i64)++((zA 10).l.map (T.int .i64)++[T.int .i64 s_.2.2.2.1,za4 s_.2.2.2.2]))),.cells true 23 (T.int .i64 1 :: ((zA 10).l.map (T.int .i64)++((zA 10).l.map (T.int .i64)++[T.int .i64 s_2.2.2.2.1,za4 s_2.2.2.2.2])))])] hh ?_ ?_
 ·exact ⟨zaj.call ((zn2 ax hx k (⟨1,(⟨(zA 10),(zA 10)⟩:Pat),s_.2.2.2.1,s_.2.2.2.2⟩:Rule) (⟨1,(⟨(zA 10),(zA 10)⟩:Pat),s_2.2.2.2.1,s_2.2.2.2.2⟩:Rule) rSameRule e7 ).call _),trivial⟩
 clear hh h;intro h hh;cases H;exact rt hh
def zc1 (k:Nat) (n:Net) (t:List Rule) (u:List Rule) (h_:Ar 10):Option Bool:=((((zoc k n [t,u]).bind fun rright=>(if rright=true then ((zdw k h_).bind fun rRightHead=>some (!rRightHead)) else some true)):Option Bool).bind fun s_=>(if s_=true then some true else ((zfd k t u).bind fun rEqual=>((zj3 k t u).bind fun rEqual2=>((zfd k u t).bind fun rEqual3=>((zfd k t t).bind fun rEqual4=>(((if rEqual.1=rEqual2.1 then (if rEqual.2=true then (if rEqual2.2=true then (if rEqual.1=rEqual3.1 then (if rEqual3.2=true then some (true,(!rEqual4.2)) else some (true,true)) else some (true,true)) else some (true,true)) else (if rEqual2.2=true then some (false,true) else (if rEqual.1=rEqual3.1 then (if rEqual3.2=true then some (false,true) else some (false,(!rEqual4.2))) else some (false,true)))) else some (rEqual.2,true)):Option (Bool×Bool)).bind fun s_2=>(if s_2.2=true then some false else (if s_2.1=true then ((za0 k h_ t u).bind fun r1=>some r1) else ((za0 k rEqual.1 t u).bind fun r12=>(if r12=true then some false else ((zcu k h_ rEqual.1).bind fun rCompareHeads=>(if 0≤rCompareHeads then some true else ((za0 k h_ t u).bind fun r13=>some r13))))))))))))))
set_option maxHeartbeats 8000000 in
theorem zkr (ax:Axs) (hx:zbx ax) (k:Nat) (n:Net) (t:List Rule) (u:List Rule) (h_:Ar 10) (v:Bool) (H:zc1 k n t u h_=some v):Pure Tryz.prog (EE ax) [] 6 [eNet n,zao t,zao u,.agg (h_.l.map (T.int .i64))] (.bool v):=by
 rw [zc1] at H;refine en [.tmp 8] 102 [0,1,2,3] (hx.no _ (by decide)) (fn6 ax) ?_;intro h hh;repeat apply TW.seq
 refine rk [4,5,6,7] [] hh ?_;clear hh h;intro h hh;refine zk 5 1 1 true [zao t] [4,5,6,7] hh ?_;clear hh h;intro h hh;refine zk 6 2 1 true [zao u] [4,5,6,7] hh ?_;clear hh h;intro h hh;obtain ⟨s_,H1,H⟩:=zad H;repeat apply TW.seq
 refine cu [5,6,7,28] 4 (fun h bs=>(h 5=.cp [zao t]∧h 6=.cp [zao u]∧h 7=.ptr 3 0 10∧h 28=.bool s_)∧bs=[.cells true 3 [za6 n.nodes,za7 n.links,za8 n.edges],.gone,.gone,.cells true 10 (h_.l.map (T.int .i64))]) ?_ ?_
 ·skip;obtain ⟨rright,e1,H1⟩:=zad H1;rcases isb H1 with ⟨c2,H1⟩|⟨c2,H1⟩;rotate_left
  ·skip;repeat apply TW.seq
   refine rkc [5,6,7,28] [] [(.bool rright,stL [.cells true 3 [za6 n.nodes,za7 n.links,za8 n.edges],.gone,.gone,.cells true 10 (h_.l.map (T.int .i64))])] (f3 hh c2 (ymb ax)) ?_ ?_
   ·exact ⟨zaj.call (Pure.clr (zsc ax hx k n [t,u] rright e1 ) (by first|rfl|simp only [c2])),trivial⟩
   clear hh h;intro h hh;cases H1;exact ce hh ⟨kq hh,rfl⟩
  obtain ⟨rRightHead,e3,H1⟩:=zad H1;repeat apply TW.seq
  refine rkc [5,6,7,28] [] [(.bool rright,stL [.cells true 3 [za6 n.nodes,za7 n.links,za8 n.edges],.gone,.gone,.cells true 10 (h_.l.map (T.int .i64))]),(.bool rRightHead,stL [.cells true 3 [za6 n.nodes,za7 n.links,za8 n.edges],.gone,.gone,.cells true 10 (h_.l.map (T.int .i64))])] (f3 hh c2 (ymb ax)) ?_ ?_
  ·exact ⟨zaj.call (Pure.clr (zsc ax hx k n [t,u] rright e1 ) (by first|rfl|simp only [c2])),zaj.call (Pure.clr (zhm ax hx k h_ rRightHead e3 ) (by first|rfl|simp only [c2])),trivial⟩
  clear hh h;intro h hh;cases H1;exact ce hh ⟨kq hh,rfl⟩
 clear hh h;rintro h bs ⟨hh,rfl⟩;rcases isb H with ⟨c4,H⟩|⟨c4,H⟩;rotate_left
 ·skip;repeat apply TW.seq
  refine cf (f2 hh c4) ?_;repeat apply TW.seq
  refine sk ?_;obtain ⟨rEqual,e5,H⟩:=zad H;repeat apply TW.seq
  refine rkc [5,6,7,9,10] [] [(.tup [.agg (rEqual.1.l.map (T.int .i64)),.bool rEqual.2],stL [.cells true 3 [za6 n.nodes,za7 n.links,za8 n.edges],.gone,.gone,.cells true 10 (h_.l.map (T.int .i64))])] (f2 hh c4) ?_ ?_
  ·exact ⟨zaj.call (Pure.clr (zix ax hx k t u rEqual e5 ) (by first|rfl|simp only [c4])),trivial⟩
  clear hh h;intro h hh;obtain ⟨rEqual2,e6,H⟩:=zad H;repeat apply TW.seq
  refine rkc [5,6,7,9,10,11,12] [] [(.tup [.agg (rEqual2.1.l.map (T.int .i64)),.bool rEqual2.2],stL [.cells true 3 [za6 n.nodes,za7 n.links,za8 n.edges],.gone,.gone,.cells true 10 (h_.l.map (T.int .i64)),.cells true 10 (rEqual.1.l.map (T.int .i64))])] (f2 hh c4) ?_ ?_
  ·exact ⟨zaj.call (Pure.clr (zxn ax hx k t u rEqual2 e6 ) (by first|rfl|simp only [c4])),trivial⟩
  clear hh h;intro h hh;obtain ⟨rEqual3,e7,H⟩:=zad H;repeat apply TW.seq
  refine rkc [5,6,7,9,10,11,12,13,14] [] [(.tup [.agg (rEqual3.1.l.map (T.int .i64)),.bool rEqual3.2],stL [.cells true 3 [za6 n.nodes,za7 n.links,za8 n.edges],.gone,.gone,.cells true 10 (h_.l.map (T.int .i64)),.cells true 10 (rEqual.1.l.map (T.int .i64)),.cells true 10 (rEqual2.1.l.map (T.int .i64))])] (f2 hh c4) ?_ ?_
  ·exact ⟨zaj.call (Pure.clr (zix ax hx k u t rEqual3 e7 ) (by first|rfl|simp only [c4])),trivial⟩
  clear hh h;intro h hh;obtain ⟨rEqual4,e8,H⟩:=zad H;repeat apply TW.seq
  refine rkc [5,6,7,9,10,11,12,13,14,16] [] [(.tup [.agg (rEqual4.1.l.map (T.int .i64)),.bool rEqual4.2],stL [.cells true 3 [za6 n.nodes,za7 n.links,za8 n.edges],.gone,.gone,.cells true 10 (h_.l.map (T.int .i64)),.cells true 10 (rEqual.1.l.map (T.int .i64)),.cells true 10 (rEqual2.1.l.map (T.int .i64)),.cells true 10 (rEqual3.1.l.map (T.int .i64))])] (f2 hh c4) ?_ ?_
  ·exact ⟨zaj.call (Pure.clr (zix ax hx k t t rEqual4 e8 ) (by first|rfl|simp only [c4])),trivial⟩
  clear hh h;intro h hh;obtain ⟨s_2,H1,H⟩:=zad H;repeat apply TW.seq
  refine cu [5,6,7,9,10,75] 8 (fun h bs=>(h 5=.cp [zao t]∧h 6=.cp [zao u]∧h 7=.ptr 3 0 10∧h 9=.ptr 4 0 10∧h 10=.bool s_2.1∧h 75=.bool s_2.2)∧bs=[.cells true 3 [za6 n.nodes,za7 n.links,za8 n.edges],.gone,.gone,.cells true 10 (h_.l.map (T.int .i64)),.cells true 10 (rEqual.1.l.map (T.int .i64)),.cells true 10 (rEqual2.1.l.map (T.int .i64)),.cells true 10 (rEqual3.1.l.map (T.int .i64)),.cells true 10 (rEqual4.1.l.map (T.int .i64))]) ?_ ?_
  ·skip;rcases isp H1 with ⟨c9,H1⟩|⟨c9,H1⟩;rotate_left
   ·skip;repeat apply TW.seq
    refine rk [5,6,7,9,10,75] [] (f3 hh (decide_eq_false c9) (f2 c4 ((aq39 ax rEqual.1 rEqual2.1).2))) ?_;clear hh h;intro h hh;cases H1;exact ce hh ⟨kq hh,rfl⟩
   rcases isb H1 with ⟨c10,H1⟩|⟨c10,H1⟩;rotate_left
   ·skip;rcases isb H1 with ⟨c14,H1⟩|⟨c14,H1⟩;rotate_left
    ·skip;rcases isp H1 with ⟨c15,H1⟩|⟨c15,H1⟩;rotate_left
     ·skip;repeat apply TW.seq
      refine rk [5,6,7,9,10,75] [] (f3 hh (decide_eq_true c9) (f3 c10 c14 (f3 (decide_eq_false c15) c4 (f2 ((aq39 ax rEqual.1 rEqual2.1).2) ((aq39 ax rEqual.1 rEqual3.1).2))))) ?_;clear hh h;intro h hh;cases H1;exact ce hh ⟨kq (f2 hh c10),rfl⟩
     rcases isb H1 with ⟨c16,H1⟩|⟨c16,H1⟩;rotate_left
     ·skip;repeat apply TW.seq
      refine rk [5,6,7,9,10,75] [] (f3 hh (decide_eq_true c9) (f3 c10 c14 (f3 (decide_eq_true c15) c16 (f3 c4 ((aq39 ax rEqual.1 rEqual2.1).2) ((aq39 ax rEqual.1 rEqual3.1).2))))) ?_;clear hh h;intro h hh;cases H1;exact ce hh ⟨kq (f2 hh c10),rfl⟩
     repeat apply TW.seq
     refine rk [5,6,7,9,10,75] [] (f3 hh (decide_eq_true c9) (f3 c10 c14 (f3 (decide_eq_true c15) c16 (f3 c4 ((aq39 ax rEqual.1 rEqual2.1).2) ((aq39 ax rEqual.1 rEqual3.1).2))))) ?_;clear hh h;intro h hh;cases H1;exact ce hh ⟨kq (f2 hh c10),rfl⟩
    repeat apply TW.seq
    refine rk [5,6,7,9,10,75] [] (f3 hh (decide_eq_true c9) (f3 c10 c14 (f2 c4 ((aq39 ax rEqual.1 rEqual2.1).2)))) ?_;clear hh h;intro h hh;cases H1;exact ce hh ⟨kq (f2 hh c10),rfl⟩
   rcases isb H1 with ⟨c11,H1⟩|⟨c11,H1⟩;rotate_left
   ·skip;repeat apply TW.seq
    refine rk [5,6,7,9,10,75] [] (f3 hh (decide_eq_true c9) (f3 c10 c11 (f2 c4 ((aq39 ax rEqual.1 rEqual2.1).2)))) ?_;clear hh h;intro h hh;cases H1;exact ce hh ⟨kq (f2 hh c10),rfl⟩
   rcases isp H1 with ⟨c12,H1⟩|⟨c12,H1⟩;rotate_left
   ·skip;repeat apply TW.seq
    refine rk [5,6,7,9,10,75] [] (f3 hh (decide_eq_true c9) (f3 c10 c11 (f3 (decide_eq_false c12) c4 (f2 ((aq39 ax rEqual.1 rEqual2.1).2) ((aq39 ax rEqual.1 rEqual3.1).2))))) ?_;clear hh h;intro h hh;cases H1;exact ce hh ⟨kq (f2 hh c10),rfl⟩
   rcases isb H1 with ⟨c13,H1⟩|⟨c13,H1⟩;rotate_left
   ·skip;repeat apply TW.seq
    refine rk [5,6,7,9,10,75] [] (f3 hh (decide_eq_true c9) (f3 c10 c11 (f3 (decide_eq_true c12) c13 (f3 c4 ((aq39 ax rEqual.1 rEqual2.1).2) ((aq39 ax rEqual.1 rEqual3.1).2))))) ?_;clear hh h;intro h hh;cases H1;exact ce hh ⟨kq (f2 hh c10),rfl⟩
   repeat apply TW.seq
   refine rk [5,6,7,9,10,75] [] (f3 hh (decide_eq_true c9) (f3 c10 c11 (f3 (decide_eq_true c12) c13 (f3 c4 ((aq39 ax rEqual.1 rEqual2.1).2) ((aq39 ax rEqual.1 rEqual3.1).2))))) ?_;clear hh h;intro h hh;cases H1;exact ce hh ⟨kq (f2 hh c10),rfl⟩
  clear hh h;rintro h bs ⟨hh,rfl⟩;rcases isb H with ⟨c17,H⟩|⟨c17,H⟩;rotate_left
  ·skip;repeat apply TW.seq
   refine cf (f2 hh c17) ?_;repeat apply TW.seq
   refine sk ?_;repeat apply TW.seq
   refine rk [7,9,10,17] [] (f3 hh c4 c17) ?_;clear hh h;intro h hh;repeat apply TW.seq
   refine rk [7,9,17,77] [] (f3 hh c4 c17) ?_;clear hh h;intro h hh;rcases isb H with ⟨c18,H⟩|⟨c18,H⟩;rotate_left
   ·skip;repeat apply TW.seq
    refine cf (f2 hh c18) ?_;repeat apply TW.seq
    refine sk ?_;obtain ⟨r12,e20,H⟩:=zad H;rcases isb H with ⟨c21,H⟩|⟨c21,H⟩;rotate_left
    ·skip;obtain ⟨rCompareHeads,e22,H⟩:=zad H;rcases isp H with ⟨c23,H⟩|⟨c23,H⟩;rotate_left
     ·skip;obtain ⟨r13,e24,H⟩:=zad H;repeat apply TW.seq
      refine rkc [8] [] [(.bool true,stL [.cells true 3 [za6 n.nodes,za7 n.links,za8 n.edges],.gone,.gone,.cells true 10 (h_.l.map (T.int .i64)),.cells true 10 (rEqual.1.l.map (T.int .i64)),.cells true 10 (rEqual2.1.l.map (T.int .i64)),.cells true 10 (rEqual3.1.l.map (T.int .i64)),.cells true 10 (rEqual4.1.l.map (T.int .i64))]),(.bool r12,stL [.cells true 3 [za6 n.nodes,za7 n.links,za8 n.edges],.gone,.gone,.cells true 10 (h_.l.map (T.int .i64)),.cells true 10 (rEqual.1.l.map (T.int .i64)),.cells true 10 (rEqual2.1.l.map (T.int .i64)),.cells true 10 (rEqual3.1.l.map (T.int .i64)),.cells true 10 (rEqual4.1.l.map (T.int .i64))]),(.int .i64 rCompareHeads,stL [.cells true 3 [za6 n.nodes,za7 n.links,za8 n.edges],.gone,.gone,.cells true 10 (h_.l.map (T.int .i64)),.cells true 10 (rEqual.1.l.map (T.int .i64)),.cells true 10 (rEqual2.1.l.map (T.int .i64)),.cells true 10 (rEqual3.1.l.map (T.int .i64)),.cells true 10 (rEqual4.1.l.map (T.int .i64))]),(.bool r13,stL [.cells true 3 [za6 n.nodes,za7 n.links,za8 n.edges],.gone,.gone,.cells true 10 (h_.l.map (T.int .i64)),.cells true 10 (rEqual.1.l.map (T.int .i64)),.cells true 10 (rEqual2.1.l.map (T.int .i64)),.cells true 10 (rEqual3.1.l.map (T.int .i64)),.cells true 10 (rEqual4.1.l.map (T.int .i64))])] (f3 hh c21 (f3 (decide_eq_false c23) c4 (f2 c17 c18))) ?_ ?_
      ·exact ⟨zaj.call (Pure.clr hx.san (by first|rfl|simp only [c4,c17,c18,c21])),zaj.call (Pure.clr (zbn ax hx k rEqual.1 t u r12 e20 ) (by first|rfl|simp only [c4,c17,c18,c21])),zaj.call (Pure.clr (zfi ax hx k h_ rEqual.1 rCompareHeads e22 ) (by first|rfl|simp only [c4,c17,c18,c21])),zaj.call (Pure.clr (zbn ax hx k h_ t u r13 e24 ) (by first|rfl|simp only [c4,c17,c18,c21])),trivial⟩
      clear hh h;intro h hh;cases H;exact rt hh
     repeat apply TW.seq
     refine rkc [8] [] [(.bool true,stL [.cells true 3 [za6 n.nodes,za7 n.links,za8 n.edges],.gone,.gone,.cells true 10 (h_.l.map (T.int .i64)),.cells true 10 (rEqual.1.l.map (T.int .i64)),.cells true 10 (rEqual2.1.l.map (T.int .i64)),.cells true 10 (rEqual3.1.l.map (T.int .i64)),.cells true 10 (rEqual4.1.l.map (T.int .i64))]),(.bool r12,stL [.cells true 3 [za6 n.nodes,za7 n.links,za8 n.edges],.gone,.gone,.cells true 10 (h_.l.map (T.int .i64)),.cells true 10 (rEqual.1.l.map (T.int .i64)),.cells true 10 (rEqual2.1.l.map (T.int .i64)),.cells true 10 (rEqual3.1.l.map (T.int .i64)),.cells true 10 (rEqual4.1.l.map (T.int .i64))]),(.int .i64 rCompareHeads,stL [.cells true 3 [za6 n.nodes,za7 n.links,za8 n.edges],.gone,.gone,.cells true 10 (h_.l.map (T.int .i64)),.cells true 10 (rEqual.1.l.map (T.int .i64)),.cells true 10 (rEqual2.1.l.map (T.int .i64)),.cells true 10 (rEqual3.1.l.map (T.int .i64)),.cells true 10 (rEqual4.1.l.map (T.int .i64))])] (f3 hh c21 (f3 (decide_eq_true c23) c4 (f2 c17 c18))) ?_ ?_
     ·exact ⟨zaj.call (Pure.clr hx.san (by first|rfl|simp only [c4,c17,c18,c21])),zaj.call (Pure.clr (zbn ax hx k rEqual.1 t u r12 e20 ) (by first|rfl|simp only [c4,c17,c18,c21])),zaj.call (Pure.clr (zfi ax hx k h_ rEqual.1 rCompareHeads e22 ) (by first|rfl|simp only [c4,c17,c18,c21])),trivial⟩
     clear hh h;intro h hh;cases H;exact rt hh
    repeat apply TW.seq
    refine rkc [8] [] [(.bool true,stL [.cells true 3 [za6 n.nodes,za7 n.links,za8 n.edges],.gone,.gone,.cells true 10 (h_.l.map (T.int .i64)),.cells true 10 (rEqual.1.l.map (T.int .i64)),.cells true 10 (rEqual2.1.l.map (T.int .i64)),.cells true 10 (rEqual3.1.l.map (T.int .i64)),.cells true 10 (rEqual4.1.l.map (T.int .i64))]),(.bool r12,stL [.cells true 3 [za6 n.nodes,za7 n.links,za8 n.edges],.gone,.gone,.cells true 10 (h_.l.map (T.int .i64)),.cells true 10 (rEqual.1.l.map (T.int .i64)),.cells true 10 (rEqual2.1.l.map (T.int .i64)),.cells true 10 (rEqual3.1.l.map (T.int .i64)),.cells true 10 (rEqual4.1.l.map (T.int .i64))])] (f3 hh c21 (f3 c4 c17 c18)) ?_ ?_
    ·exact ⟨zaj.call (Pure.clr hx.san (by first|rfl|simp only [c4,c17,c18,c21])),zaj.call (Pure.clr (zbn ax hx k rEqual.1 t u r12 e20 ) (by first|rfl|simp only [c4,c17,c18,c21])),trivial⟩
    clear hh h;intro h hh;cases H;exact rt hh
   repeat apply TW.seq
   refine ct (f2 hh c18) ?_;obtain ⟨r1,e19,H⟩:=zad H;repeat apply TW.seq
   refine rkc [8] [] [(.bool true,stL [.cells true 3 [za6 n.nodes,za7 n.links,za8 n.edges],.gone,.gone,.cells true 10 (h_.l.map (T.int .i64)),.cells true 10 (rEqual.1.l.map (T.int .i64)),.cells true 10 (rEqual2.1.l.map (T.int .i64)),.cells true 10 (rEqual3.1.l.map (T.int .i64)),.cells true 10 (rEqual4.1.l.map (T.int .i64))]),(.bool r1,stL [.cells true 3 [za6 n.nodes,za7 n.links,za8 n.edges],.gone,.gone,.cells true 10 (h_.l.map (T.int .i64)),.cells true 10 (rEqual.1.l.map (T.int .i64)),.cells true 10 (rEqual2.1.l.map (T.int .i64)),.cells true 10 (rEqual3.1.l.map (T.int .i64)),.cells true 10 (rEqual4.1.l.map (T.int .i64))])] (f3 hh c4 (f2 c17 c18)) ?_ ?_
   ·exact ⟨zaj.call (Pure.clr hx.san (by first|rfl|simp only [c4,c17,c18])),zaj.call (Pure.clr (zbn ax hx k h_ t u r1 e19 ) (by first|rfl|simp only [c4,c17,c18])),trivial⟩
   clear hh h;intro h hh;cases H;exact rt hh
  repeat apply TW.seq
  refine ct (f2 hh c17) ?_;repeat apply TW.seq
  refine rk [8] [] (f3 hh c4 c17) ?_;clear hh h;intro h hh;cases H;exact rt hh
 repeat apply TW.seq
 refine ct (f2 hh c4) ?_;repeat apply TW.seq
 refine rkc [8] [] [(.bool true,stL [.cells true 3 [za6 n.nodes,za7 n.links,za8 n.edges],.gone,.gone,.cells true 10 (h_.l.map (T.int .i64))])] (f2 hh c4) ?_ ?_
 ·exact ⟨zaj.call (Pure.clr hx.san (by first|rfl|simp only [c4])),trivial⟩
 clear hh h;intro h hh;cases H;exact rt hh
end
section
open Go Go.RowKit
set_option maxRecDepth 100000
end
section
open Go Go.RowKit
def hd (t:List Rule) (h:Ar 10):Int×List (List Alt):=match t.find? (fun r=>zaq r.mat h) with|some r=>(r.step,r.outs)|none=>(-1,[])
theorem zpn (t:List Rule) {h:Ar 10} (hh:zab h=true):∃ i,i<(t++[rst]).length∧Out ((t++[rst]).getD i default).mat (bef (t++[rst]) i) h∧((t++[rst]).getD i default).step=(hd t h).1∧((t++[rst]).getD i default).outs=(hd t h).2:=by
  have hb:∀ i,i≤t.length→bef (t++[rst]) i=bef t i:=fun i hi=>by unfold bef;rw [List.take_append_of_le_length hi]
  have hr:zaq rst.mat h=true:=zar.2 fun i hi hm=>by
    have z:∀ s,s<10→hw (zA 10) s=0:=by decide
    have:hbit rst.mat.mask i=false:=by
      show hbit (zA 10) i=false;unfold hbit;rw [z (i / 16) (by omega)];exact Nat.zero_testBit _
    rw [this] at hm;cases hm
  unfold hd;rcases z5g t h with ⟨_,e⟩|⟨i,hi,_,e,hm,hn⟩
  · refine ⟨t.length,by rw [List.length_append,List.length_singleton];omega,?_,?_⟩
    · rw [List.getD_eq_getElem?_getD,List.getElem?_append_right (Nat.le_refl _),Nat.sub_self];refine ⟨hh,hr,fun q hq=>?_⟩;rw [hb _ (Nat.le_refl _)] at hq;obtain ⟨r,hr,rfl⟩:=z21 hq;have:=List.find?_eq_none.1 e r hr;simpa using this
    · rw [List.getD_eq_getElem?_getD,List.getElem?_append_right (Nat.le_refl _),Nat.sub_self,e];exact ⟨rfl,rfl⟩
  · have eg:(t++[rst]).getD i default=t[i]:=by rw [List.getD_eq_getElem?_getD,List.getElem?_append_left hi,List.getElem?_eq_getElem hi];rfl
    refine ⟨i,by rw [List.length_append,List.length_singleton];omega,?_,?_⟩
    · rw [eg,hb _ (by omega)];exact (yjr hi).2 ⟨hh,hm,hn⟩
    · rw [eg,e];exact ⟨rfl,rfl⟩
theorem yay {a:List Rule} {i j:Nat} {h:Ar 10} (hi:i<a.length) (hj:j<a.length) (k1:Out (a.getD i default).mat (bef a i) h) (k2:Out (a.getD j default).mat (bef a j) h):i=j:=by
  have key:∀ {i j:Nat},i<a.length→i<j→j<a.length→Out (a.getD i default).mat (bef a i) h→Out (a.getD j default).mat (bef a j) h→False:=fun {i j} hi hij hj k1 k2=>by
    have:=k2.no _ ((zno (by omega)).2 ⟨i,hi,hij,rfl⟩);have e:=k1.into;rw [List.getD_eq_getElem?_getD,List.getElem?_eq_getElem hi] at e;rw [show (some a[i]).getD default=a[i] from rfl,this] at e;cases e
  rcases Nat.lt_trichotomy i j with c|c|c
  · exact (key hi c hj k1 k2).elim
  · exact c
  · exact (key hj c hi k2 k1).elim
theorem zm8.same {t u:List Rule} {x:Ar 10} (h:zm8 (t++[rst]) (u++[rst]) x false) {y:Ar 10} (hy:zab y=true):hd t y=hd u y:=by
  obtain ⟨i,hi,o1,s1,w1⟩:=zpn t hy;obtain ⟨j,hj,o2,s2,w2⟩:=zpn u hy;rcases h with ⟨e,_,_⟩|⟨_,_,n⟩
  · cases e
  · refine Classical.byContradiction fun hne=>n i j y ⟨hi,hj⟩ ⟨fun q=>hne ?_,o1,o2⟩;exact Prod.ext (s1.symm.trans (q.1.trans s2)) (w1.symm.trans (q.2.trans w2))
theorem zm8.differ {t u:List Rule} {x:Ar 10} (h:zm8 (t++[rst]) (u++[rst]) x true):zab x=true∧hd t x≠hd u x∧∀ y,zab y=true→ltH y x→hd t y=hd u y:=by
  rcases h with ⟨_,⟨i,j,⟨hi,hj⟩,d⟩,l⟩|⟨e,_,_⟩
  · refine ⟨d.one.right,fun e=>d.ne ?_,fun y hy hlt=>?_⟩
    · obtain ⟨i',hi',o1,s1,w1⟩:=zpn t d.one.right;obtain ⟨j',hj',o2,s2,w2⟩:=zpn u d.one.right;obtain rfl:=yay hi hi' d.one o1;obtain rfl:=yay hj hj' d.two o2;exact ⟨by rw [s1,s2,e],by rw [w1,w2,e]⟩
    · obtain ⟨i',hi',o1,s1,w1⟩:=zpn t hy;obtain ⟨j',hj',o2,s2,w2⟩:=zpn u hy;refine Classical.byContradiction fun hne=>l i' j' y ⟨hi',hj'⟩ ⟨fun q=>hne ?_,o1,o2⟩ hlt;exact Prod.ext (s1.symm.trans (q.1.trans s2)) (w1.symm.trans (q.2.trans w2))
  · cases e
theorem zm8.of_same {t u:List Rule} {x:Ar 10} {f:Bool} (h:zm8 (t++[rst]) (u++[rst]) x f) (hs:∀ y,zab y=true→hd t y=hd u y):f=false:=by
  cases f with
  |false=>rfl
  |true =>
    obtain ⟨h1,h2,_⟩:=zm8.differ h;exact absurd (hs x h1) h2
theorem ybn {k:Nat} {h:Ar 10} {t u:List Rule} (hh:zab h=true) (pt:∀ r,r∈t→zag r.mat=true) (pu:∀ r,r∈u→zag r.mat=true) (ot:zq1 t) (ou:zq1 u) (hk:big≤k):za0 k h t u=some (decide (hd t h=hd u h)):=by
  have part:∀ v:List Rule,zq1 v→∃ p a b,(if 0≤zq2 v h then (if (0:Int)≤zq2 v h∧zq2 v h<(v.length:Int) then some ((gx v (zq2 v h)).prio,((gx v (zq2 v h)).mat).mask,((gx v (zq2 v h)).mat).bits,(gx v (zq2 v h)).step,(gx v (zq2 v h)).outs) else none) else some (0,(zA 10),(zA 10),(-1),[]):Option (Int×Ar 10×Ar 10×Int×List (List Alt)))=some (p,a,b,(hd v h).1,(hd v h).2)∧zkf ⟨1,⟨zA 10,zA 10⟩,(hd v h).1,(hd v h).2⟩:=fun v ov=>by
    unfold hd;rcases z5g v h with ⟨e0,e⟩|⟨i,hi,e0,e,hm,hn⟩
    · rw [e0,e];exact ⟨_,_,_,rfl,by decide,fun l hl=>by cases hl⟩
    · rw [e0,e,if_pos (by omega),if_pos ⟨by omega,zam hi⟩,zea hi];have q:=ov.2 _ (List.getElem_mem hi);exact ⟨_,_,_,rfl,q.1,q.2⟩
  unfold za0;obtain ⟨p1,a1,b1,e1,o1⟩:=part t ot;obtain ⟨p2,a2,b2,e2,o2⟩:=part u ou;rw [zp1 t h pt hh ot.1 hk,Option.bind_some,e1,Option.bind_some,zp1 u h pu hh ou.1 hk,Option.bind_some,e2,Option.bind_some];dsimp only;rw [zue _ _ o1 hk,Option.bind_some];congr 1;rw [Bool.eq_iff_iff,decide_eq_true_eq,decide_eq_true_eq];constructor
  · intro q;injection q with _ _ q3 q4;exact Prod.ext q3 q4
  · intro q;rw [q]
theorem ybk {t u:List Rule} {F:List Nat} (h:Lit (t++u) F):Lit t F∧Lit u F:=by
  have:=h.len;rw [List.length_append] at this;exact ⟨⟨by omega,fun r hr=>h.right r (List.mem_append_left _ hr),h.few,fun r hr=>h.mask r (List.mem_append_left _ hr)⟩,⟨by omega,fun r hr=>h.right r (List.mem_append_right _ hr),h.few,fun r hr=>h.mask r (List.mem_append_right _ hr)⟩⟩
theorem ybo (n:Net) (t u:List Rule) (h:Ar 10) (hn:Held n) (ht:zq1 t) (hu:zq1 u):∃ k,zc1 k n t u h=some true:=by
  refine ⟨big,?_⟩;generalize hk0:big=k;have hk:big≤k:=Nat.le_of_eq hk0;have hk10:10<k:=Nat.lt_of_lt_of_le (by decide) hk;unfold zc1
  obtain ⟨b,eb,hb⟩:=z7m hk n hn [t,u] (fun x hx=>by
    rcases List.mem_cons.1 hx with rfl|hx
    · exact ht
    · cases List.mem_singleton.1 hx;exact hu) (by simp)
  rw [eb,Option.bind_some]
  cases b with
  |false=>rfl
  |true =>
    obtain ⟨_,hall,F,hL⟩:=hb rfl;have ef:([t,u]:List (List Rule)).flatten=t++u:=by simp
    rw [ef] at hL;obtain ⟨Lt,Lu⟩:=ybk hL;have lt:=(hall t (by simp)).1;have lu:=(hall u (by simp)).1;rw [if_pos rfl,zky h hk10,Option.bind_some]
    cases hh:zab h with
    |false=>rfl
    |true =>
      obtain ⟨x,f,e1,R1⟩:=znh Lt Lu (by omega) (by omega) ht hk;obtain ⟨x2,f2,e2,R2⟩:=yaj (k:=k) Lt Lu (by omega) (by omega) ht hk;obtain ⟨x3,f3,e3,R3⟩:=znh Lu Lt (by omega) (by omega) hu hk;obtain ⟨x4,f4,e4,R4⟩:=znh Lt Lt (by omega) (by omega) ht hk;obtain ⟨rfl,rfl⟩:=Acc.uniq R2 R1;obtain ⟨rfl,rfl⟩:=Acc.uniq R3.symm R1;obtain rfl:=R4.of_same fun _ _=>rfl;rw [Option.bind_some,if_neg (by simp),e1,Option.bind_some,e2,Option.bind_some,e3,Option.bind_some,e4,Option.bind_some]
      have step:(if (x3,!f3).1=(x3,!f3).1 then (if (x3,!f3).2=true then (if (x3,!f3).2=true then (if (x3,!f3).1=(x3,!f3).1 then (if (x3,!f3).2=true then some (true,(!(x4,!false).2)) else some (true,true)) else some (true,true)) else some (true,true)) else (if (x3,!f3).2=true then some (false,true) else (if (x3,!f3).1=(x3,!f3).1 then (if (x3,!f3).2=true then some (false,true) else some (false,(!(x4,!false).2))) else some (false,true)))) else some ((x3,!f3).2,true):Option (Bool×Bool))=some (!f3,false):=by
        cases f3<;>simp
      rw [step,Option.bind_some,if_neg (by simp)];have al:∀ y,zab y=true→za0 k y t u=some (decide (hd t y=hd u y)):=fun y hy=>ybn hy Lt.right Lu.right ht hu hk
      cases f3 with
      |false=>rw [if_pos (show (!false,false).fst=true from rfl),al h hh,decide_eq_true (R1.same hh)];rfl
      |true =>
        obtain ⟨r1,r2,r3⟩:=zm8.differ R1;dsimp only;obtain ⟨c,ec,hc⟩:=zkl (k:=k) hh r1 hk10;rw [if_neg (by simp),al x3 r1,Option.bind_some,decide_eq_false r2,if_neg (by simp),ec,Option.bind_some];by_cases q:0≤c
        · rw [if_pos q]
        · rw [if_neg q,al h hh,decide_eq_true (r3 h hh (hc.neg.1 (by omega)))];rfl
end
section
open Go Go.RowKit
theorem heldW {n:Net} (h:yi7 n):Held n:=⟨fun x hx=>(h.1.2 x hx).1,fun x hx=>(h.2.2.2 x hx).1⟩
theorem yjt {r:Rule} (h:zy8 r):zkf r:=⟨h.2.2.2.1,fun l hl=>(h.2.2.2.2 l hl).1⟩
theorem yg4 {t:List Rule} (h:t.length<big∧∀ y,y∈t→zy8 y):zq1 t:=⟨h.1,fun r hr=>yjt (h.2 r hr)⟩
end
section
open Go Go.RowKit
theorem law5w (n:Net) (t u:List Rule) (h:Ar 10) (wn:yi7 n) (wt:t.length<big∧∀ y,y∈t→zy8 y) (wu:u.length<big∧∀ y,y∈u→zy8 y) (_:∀ y,y∈h.l→inI y):∃ k,zc1 k n t u h=some true :=
  ybo n t u h (heldW wn) (yg4 wt) (yg4 wu)
end
end Go.Proofs.YtjgbkegkcbcjaaaGreat
