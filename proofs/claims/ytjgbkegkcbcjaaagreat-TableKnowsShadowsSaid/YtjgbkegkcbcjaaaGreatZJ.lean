/- Part 10 of the proof of TableKnowsShadows (several texts in one; no further condition). -/
import Derived.Test.YtjgbkegkcbcjaaaGreatZH
import Derived.Test.YtjgbkegkcbcjaaaGreatZI
set_option linter.unusedSimpArgs false
set_option linter.unusedVariables false
set_option linter.unusedSectionVars false
namespace Go.Proofs.YtjgbkegkcbcjaaaGreat
section
open Go Go.RowKit
set_option maxRecDepth 100000
def zej (k:Nat) (n:Net) (tables:List (List Rule)):Nat→Int→(List Rule)→Nat→Option (Bool ⊕ (List Rule×Nat))
 |0,_,_,_=>none
 |m+1,i,l,n2=>(if i<(tables.length:Int) then (if (0:Int)≤i∧i<(tables.length:Int) then ((znp k (gx tables i) 8).bind fun rFew2=>(if rFew2=true then ((zjs k n 1000 (gx tables i)).bind fun rCheck2=>(if rCheck2.2≠0 then some (.inl false) else (if (n2+(gx tables i).length)*201≤1000000000 then (if (gx tables i).length=0 then zej k n tables m (IntKind.i64.wrap (i+1)) l n2 else zej k n tables m (IntKind.i64.wrap (i+1)) (l++(gx tables i)) (n2+(gx tables i).length)) else none))) else some (.inl false))) else none) else some (.inr (l,n2)))
def znz (k:Nat) (n:Net) (tables:List (List Rule)):Option Bool:=((((znr k n 10 24 20).bind fun rFew=>(if rFew=true then ((zib k n).bind fun rCheck=>some (decide (rCheck≠0))) else some true)):Option Bool).bind fun s_=>(if s_=true then some false else ((zej k n tables k 0 [] 0:Option (Bool ⊕ (List Rule×Nat))).bind fun o=>Sum.elim (fun r=>some r) (fun s_2=>(if s_2.1.length=s_2.2 then ((zjr k s_2.1).bind fun rLight=>some rLight) else none)) o)))
set_option maxHeartbeats 8000000 in
theorem zm0 (ax:Axs) (hx:zbe ax) (k:Nat) (n:Net) (tables:List (List Rule)) (v:Bool) (H:znz k n tables=some v):Pure Tryz.prog (EE ax) [] 27 [eNet n,zqa tables] (.bool v):=by
 rw [znz] at H;refine en [.tmp 4] 41 [0,1] (hx.no _ (by decide)) (fn27 ax) ?_;intro h hh;repeat apply TW.seq
 refine rk [1,2] [] hh ?_;clear hh h;intro h hh;obtain ⟨s_,H1,H⟩:=zad H;repeat apply TW.seq
 refine cu [1,2,17] 1 (fun h bs=>(h 1=zqa tables∧h 2=.ptr 0 0 3∧h 17=.bool s_)∧bs=[.cells true 3 [zar n.nodes,zas n.links,zat n.edges]]) ?_ ?_
 ·skip;obtain ⟨rFew,e1,H1⟩:=zad H1;rcases isb H1 with ⟨c2,H1⟩|⟨c2,H1⟩;rotate_left
  ·skip;repeat apply TW.seq
   refine rkc [1,2,17] [] [(.bool rFew,stL [.cells true 3 [zar n.nodes,zas n.links,zat n.edges]])] (f2 hh c2) ?_ ?_
   ·exact ⟨zak.call (Pure.clr (zrz ax hx k n 10 24 20 rFew e1 ) (by first|rfl|simp only [c2])),trivial⟩
   clear hh h;intro h hh;cases H1;exact ce hh ⟨kq hh,rfl⟩
  obtain ⟨rCheck,e3,H1⟩:=zad H1;repeat apply TW.seq
  refine rkc [1,2,17] [] [(.bool rFew,stL [.cells true 3 [zar n.nodes,zas n.links,zat n.edges]]),(.int .i64 rCheck,stL [.cells true 3 [zar n.nodes,zas n.links,zat n.edges]])] (f2 hh c2) ?_ ?_
  ·exact ⟨zak.call (Pure.clr (zrz ax hx k n 10 24 20 rFew e1 ) (by first|rfl|simp only [c2])),zak.call (Pure.clr (zxd ax hx k n rCheck e3 ) (by first|rfl|simp only [c2])),trivial⟩
  clear hh h;intro h hh;cases H1;exact ce hh ⟨kq hh,rfl⟩
 clear hh h;rintro h bs ⟨hh,rfl⟩;rcases isb H with ⟨c4,H⟩|⟨c4,H⟩;rotate_left
 ·skip;repeat apply TW.seq
  refine cf (f2 hh c4) ?_;repeat apply TW.seq
  refine sk ?_;repeat apply TW.seq
  refine rk [1,2,5] [] (f2 hh c4) ?_;clear hh h;intro h hh;refine vk 5 23 [1,2,5] hh ?_;clear hh h;intro h hh;repeat apply TW.seq
  refine rk [2,5,18,19,20] [] (f3 hh c4 (ylf ax)) ?_;clear hh h;intro h hh;obtain ⟨o,H1,H⟩:=zad H;repeat apply TW.seq
  refine cu [5] 2 (fun h bs=>∃ s_2:List Rule×Nat,o=.inr s_2∧(h 5=.arr 1 23 0 s_2.2 s_2.2 (s_2.2*23))∧bs=[.cells true 3 [zar n.nodes,zas n.links,zat n.edges],.cells false (s_2.2*23) (vecC zb5 s_2.1)]) ?_ ?_
  ·skip;repeat apply TW.seq
   apply TW.block;repeat apply TW.seq
   refine TW.loopT [2,5,18,19,20] (fun m h bs=>∃ (i:Int) (l:List Rule) (n2:Nat),zej k n tables m i l n2=some o∧(h 2=.ptr 0 0 3∧h 5=.arr 1 23 0 n2 n2 (n2*23)∧h 18=zqa tables∧h 19=.int .i64 (tables.length:Int)∧h 20=.int .i64 i)∧bs=[.cells true 3 [zar n.nodes,zas n.links,zat n.edges],.cells false (n2*23) (vecC zb5 l)]) ?_ k _ _ ?_;rotate_left
   ·exact ⟨0,[],0,H1,kq hh,rfl⟩
   clear hh h H1;rintro m h bs ⟨i,l,n2,H1,hh,rfl⟩;rcases m with _|m
   ·rw [zej] at H1;cases H1
   rw [zej] at H1;repeat apply TW.seq
   refine rk [2,5,18,19,20,21] [] (f2 hh c4) ?_;clear hh h;intro h hh;rcases isp H1 with ⟨c5,H1⟩|⟨c5,H1⟩;rotate_left
   ·skip;repeat apply TW.seq
    refine cf (f2 hh (decide_eq_false c5)) ?_;refine xk ?_;cases H1;exact ce hh ⟨_,rfl,kq hh,rfl⟩
   repeat apply TW.seq
   refine ct (f2 hh (decide_eq_true c5)) ?_;repeat apply TW.seq
   refine sk ?_;repeat apply TW.seq
   apply TW.block;obtain ⟨g6,H1⟩:=isg H1;repeat apply TW.seq
   refine rk [2,5,7,18,19,20] [] (f3 hh c4 (f2 (zai g6) (ylf ax))) ?_;clear hh h;intro h hh;obtain ⟨rFew2,e7,H1⟩:=zad H1;repeat apply TW.seq
   refine rkc [2,5,7,18,19,20,26] [] [(.bool rFew2,stL [.cells true 3 [zar n.nodes,zas n.links,zat n.edges],.cells false (n2*23) (vecC zb5 l)])] (f2 hh c4) ?_ ?_
   ·exact ⟨zak.call (Pure.clr (z2i ax hx k (gx tables i) 8 rFew2 e7 ) (by first|rfl|simp only [c4])),trivial⟩
   clear hh h;intro h hh;rcases isb H1 with ⟨c8,H1⟩|⟨c8,H1⟩;rotate_left
   ·skip;repeat apply TW.seq
    refine ct (f2 hh c8) ?_;repeat apply TW.seq
    refine rk [4] [] (f3 hh c4 c8) ?_;clear hh h;intro h hh;cases H1;obtain rfl:=sinl H;exact rt hh
   repeat apply TW.seq
   refine cf (f2 hh c8) ?_;repeat apply TW.seq
   refine sk ?_;obtain ⟨rCheck2,e9,H1⟩:=zad H1;repeat apply TW.seq
   refine rkc [2,5,7,9,18,19,20] [] [(.tup [.int .i64 rCheck2.1,.int .i64 rCheck2.2],stL [.cells true 3 [zar n.nodes,zas n.links,zat n.edges],.cells false (n2*23) (vecC zb5 l)])] (f3 hh c4 c8) ?_ ?_
   ·exact ⟨zak.call (Pure.clr (zxb ax hx k n 1000 (gx tables i) rCheck2 e9 ) (by first|rfl|simp only [c4,c8])),trivial⟩
   clear hh h;intro h hh;repeat apply TW.seq
   refine rk [2,5,7,18,19,20,34] [] (f3 hh c4 c8) ?_;clear hh h;intro h hh;rcases isp H1 with ⟨c10,H1⟩|⟨c10,H1⟩;rotate_left
   ·skip;repeat apply TW.seq
    refine cf (f2 hh (decide_eq_false c10)) ?_;repeat apply TW.seq
    refine sk ?_;obtain ⟨g11,H1⟩:=isg H1;rcases isp H1 with ⟨c12,H1⟩|⟨c12,H1⟩;rotate_left
    ·skip;repeat apply TW.seq
     refine rg [] [] [.cells true 3 [zar n.nodes,zas n.links,zat n.edges],.cells false ((n2+(gx tables i).length)*23) (vecC zb5 (l++(gx tables i)))] (fun h=>h 2=.ptr 0 0 3∧h 5=.arr 1 23 0 (n2+(gx tables i).length) (n2+(gx tables i).length) ((n2+(gx tables i).length)*23)∧h 18=zqa tables∧h 19=.int .i64 (tables.length:Int)∧h 20=.int .i64 i) (f3 hh c4 (f3 c8 (zrg zb5 (gx tables i)) (f3 (zka (f:=zb5) (e:=23) (fun x=>zcp x) (gx tables i)) (znl (f:=zb5) (fun x=>zzx x) (gx tables i)) (f2 (el28 ax) (sr28 ax))))) trivial ?_;clear hh h;intro h hh;repeat apply TW.seq
     refine rk [2,5,18,19,20] [] (f3 hh c4 c8) ?_;clear hh h;intro h hh;exact rd m hh ⟨(IntKind.i64.wrap (i+1)),(l++(gx tables i)),(n2+(gx tables i).length),H1,kq hh,rfl⟩
    repeat apply TW.seq
    refine rg [] [] [.cells true 3 [zar n.nodes,zas n.links,zat n.edges],.cells false (n2*23) (vecC zb5 l)] (fun h=>h 2=.ptr 0 0 3∧h 5=.arr 1 23 0 n2 n2 (n2*23)∧h 18=zqa tables∧h 19=.int .i64 (tables.length:Int)∧h 20=.int .i64 i) (f3 hh c4 (f3 c8 c12 (f3 (zrg zb5 (gx tables i)) (zka (f:=zb5) (e:=23) (fun x=>zcp x) (gx tables i)) (f3 (znl (f:=zb5) (fun x=>zzx x) (gx tables i)) (el28 ax) (sr28 ax))))) trivial ?_;clear hh h;intro h hh;repeat apply TW.seq
    refine rk [2,5,18,19,20] [] (f3 hh c4 (f2 c8 c12)) ?_;clear hh h;intro h hh;exact rd m hh ⟨(IntKind.i64.wrap (i+1)),l,n2,H1,kq hh,rfl⟩
   repeat apply TW.seq
   refine ct (f2 hh (decide_eq_true c10)) ?_;repeat apply TW.seq
   refine rk [4] [] (f3 hh c4 c8) ?_;clear hh h;intro h hh;cases H1;obtain rfl:=sinl H;exact rt hh
  clear hh h;rintro h bs ⟨s_2,rfl,hh,rfl⟩;replace H:=sinr H;obtain ⟨g13,H⟩:=isg H;obtain ⟨rLight,e14,H⟩:=zad H;repeat apply TW.seq
  refine rkc [4] [] [(.bool rLight,stL [.cells true 3 [zar n.nodes,zas n.links,zat n.edges],.cells false (s_2.2*23) (vecC zb5 s_2.1)])] (f2 hh c4) ?_ ?_
  ·exact ⟨(by have q:=zak.call (Pure.lend (S:=stL [.cells true 3 [zar n.nodes,zas n.links,zat n.edges],.cells false (s_2.2*23) (vecC zb5 s_2.1)]) (args:=[.arr 1 23 0 s_2.2 s_2.2 (s_2.2*23)]) (zxa ax hx k s_2.1 rLight e14 ) (And.intro (ye3 (fun x=>zcp x) (by decide) (by rfl) g13) (trivial)) rfl);(try simp only [c4] at q);exact q),trivial⟩
  clear hh h;intro h hh;cases H;exact rt hh
 repeat apply TW.seq
 refine ct (f2 hh c4) ?_;repeat apply TW.seq
 refine rk [4] [] (f2 hh c4) ?_;clear hh h;intro h hh;cases H;exact rt hh
def zbz (k:Nat) (a:List Int) (b:List Int):Nat→Int→Option (Bool ⊕ Unit)
 |0,_=>none
 |m+1,i=>(if i<(a.length:Int) then (if (0:Int)≤i∧i<(a.length:Int) then (if (0:Int)≤i∧i<(b.length:Int) then (if (gx a i)≠(gx b i) then some (.inl false) else zbz k a b m (IntKind.i64.wrap (i+1))) else none) else none) else some (.inr ()))
def zdd (k:Nat) (a:List Int) (b:List Int):Option Bool:=(if (a.length:Int)≠(b.length:Int) then some false else ((zbz k a b k 0:Option (Bool ⊕ Unit)).bind fun o=>Sum.elim (fun r=>some r) (fun s_=>some true) o))
set_option maxHeartbeats 8000000 in
theorem zf1 (ax:Axs) (hx:zbe ax) (k:Nat) (a:List Int) (b:List Int) (v:Bool) (H:zdd k a b=some v):Pure Tryz.prog (EE ax) [] 31 [ints a,ints b] (.bool v):=by
 rw [zdd] at H;refine en [.tmp 4] 26 [0,1] (hx.no _ (by decide)) (fn31 ax) ?_;intro h hh;repeat apply TW.seq
 refine rk [0,1] [] hh ?_;clear hh h;intro h hh;repeat apply TW.seq
 refine rk [0,1,10] [] hh ?_;clear hh h;intro h hh;rcases isp H with ⟨c1,H⟩|⟨c1,H⟩;rotate_left
 ·skip;repeat apply TW.seq
  refine cf (f2 hh (decide_eq_false c1)) ?_;repeat apply TW.seq
  refine sk ?_;repeat apply TW.seq
  refine rk [0,1,5] [] hh ?_;clear hh h;intro h hh;obtain ⟨o,H1,H⟩:=zad H;repeat apply TW.seq
  refine cu [] 0 (fun h bs=>∃ s_:Unit,o=.inr s_∧(True)∧bs=[]) ?_ ?_
  ·skip;repeat apply TW.seq
   apply TW.block;repeat apply TW.seq
   refine TW.loopT [0,1,5] (fun m h bs=>∃ (i:Int),zbz k a b m i=some o∧(h 0=ints a∧h 1=ints b∧h 5=.int .i64 i)∧bs=[]) ?_ k _ _ ?_;rotate_left
   ·exact ⟨0,H1,kq hh,rfl⟩
   clear hh h H1;rintro m h bs ⟨i,H1,hh,rfl⟩;rcases m with _|m
   ·rw [zbz] at H1;cases H1
   rw [zbz] at H1;repeat apply TW.seq
   refine rk [0,1,5,14] [] hh ?_;clear hh h;intro h hh;rcases isp H1 with ⟨c2,H1⟩|⟨c2,H1⟩;rotate_left
   ·skip;repeat apply TW.seq
    refine cf (f2 hh (decide_eq_false c2)) ?_;refine xk ?_;cases H1;exact ce hh ⟨_,rfl,kq hh,rfl⟩
   repeat apply TW.seq
   refine ct (f2 hh (decide_eq_true c2)) ?_;repeat apply TW.seq
   refine sk ?_;repeat apply TW.seq
   apply TW.block;obtain ⟨g3,H1⟩:=isg H1;obtain ⟨g4,H1⟩:=isg H1;repeat apply TW.seq
   refine dk 8 [0,1,5,25] [] [] [] (f3 hh (zai g3) (zai g4)) trivial trivial ?_;clear hh h;intro h hh;rcases isp H1 with ⟨c5,H1⟩|⟨c5,H1⟩;rotate_left
   ·skip;repeat apply TW.seq
    refine cf (f2 hh (decide_eq_false c5)) ?_;repeat apply TW.seq
    refine sk ?_;repeat apply TW.seq
    refine rk [0,1,5] [] hh ?_;clear hh h;intro h hh;exact rd m hh ⟨(IntKind.i64.wrap (i+1)),H1,kq hh,rfl⟩
   repeat apply TW.seq
   refine ct (f2 hh (decide_eq_true c5)) ?_;repeat apply TW.seq
   refine rk [4] [] hh ?_;clear hh h;intro h hh;cases H1;obtain rfl:=sinl H;exact rt hh
  clear hh h;rintro h bs ⟨s_,rfl,hh,rfl⟩;replace H:=sinr H;repeat apply TW.seq
  refine rk [4] [] hh ?_;clear hh h;intro h hh;cases H;exact rt hh
 repeat apply TW.seq
 refine ct (f2 hh (decide_eq_true c1)) ?_;repeat apply TW.seq
 refine rk [4] [] hh ?_;clear hh h;intro h hh;cases H;exact rt hh
def zfu (k:Nat) (x:Int):Option Bool:=some (decide (x≠x))
set_option maxHeartbeats 8000000 in
theorem zjy (ax:Axs) (hx:zbe ax) (k:Nat) (x:Int) (v:Bool) (H:zfu k x=some v):Pure Tryz.prog (EE ax) [] 144 [.int .i64 x] (.bool v):=by
 rw [zfu] at H;refine en [.tmp 2] 6 [0] (hx.no _ (by decide)) (fn144 ax) ?_;intro h hh;repeat apply TW.seq
 refine rk [0] [] hh ?_;clear hh h;intro h hh;repeat apply TW.seq
 refine rk [2] [] hh ?_;clear hh h;intro h hh;cases H;exact rt hh
def zeo (k:Nat) (x:Int) (y:Int):Option Int:=((zfu k x).bind fun rint=>((zfu k y).bind fun rint2=>(if rint=true then (if rint2=true then some 0 else some (-1)) else (if rint2=true then some 1 else (if x<y then some (-1) else (if y<x then some 1 else some 0))))))
set_option maxHeartbeats 8000000 in
theorem zm4 (ax:Axs) (hx:zbe ax) (k:Nat) (x:Int) (y:Int) (v:Int) (H:zeo k x y=some v):Pure Tryz.prog (EE ax) [] 124 [.int .i64 x,.int .i64 y] (.int .i64 v):=by
 rw [zeo] at H;refine en [.tmp 4] 20 [0,1] (hx.no _ (by decide)) (fn124 ax) ?_;intro h hh;repeat apply TW.seq
 refine rk [0,1] [] hh ?_;clear hh h;intro h hh;obtain ⟨rint,e1,H⟩:=zad H;repeat apply TW.seq
 refine rkc [0,1,5] [] [(.bool rint,stL [])] hh ?_ ?_
 ·exact ⟨zak.call ((zjy ax hx k x rint e1 ).call _),trivial⟩
 clear hh h;intro h hh;obtain ⟨rint2,e2,H⟩:=zad H;repeat apply TW.seq
 refine rkc [0,1,5,6] [] [(.bool rint2,stL [])] hh ?_ ?_
 ·exact ⟨zak.call ((zjy ax hx k y rint2 e2 ).call _),trivial⟩
 clear hh h;intro h hh;repeat apply TW.seq
 refine rk [0,1,6,11] [] hh ?_;clear hh h;intro h hh;rcases isb H with ⟨c3,H⟩|⟨c3,H⟩;rotate_left
 ·skip;repeat apply TW.seq
  refine cf (f2 hh c3) ?_;repeat apply TW.seq
  refine sk ?_;repeat apply TW.seq
  refine rk [0,1,13] [] (f2 hh c3) ?_;clear hh h;intro h hh;rcases isb H with ⟨c5,H⟩|⟨c5,H⟩;rotate_left
  ·skip;repeat apply TW.seq
   refine cf (f2 hh c5) ?_;repeat apply TW.seq
   refine sk ?_;repeat apply TW.seq
   refine rk [0,1,16] [] (f3 hh c3 c5) ?_;clear hh h;intro h hh;rcases isp H with ⟨c6,H⟩|⟨c6,H⟩;rotate_left
   ·skip;repeat apply TW.seq
    refine cf (f2 hh (decide_eq_false c6)) ?_;repeat apply TW.seq
    refine sk ?_;repeat apply TW.seq
    refine rk [19] [] (f3 hh c3 c5) ?_;clear hh h;intro h hh;rcases isp H with ⟨c7,H⟩|⟨c7,H⟩;rotate_left
    ·skip;repeat apply TW.seq
     refine cf (f2 hh (decide_eq_false c7)) ?_;repeat apply TW.seq
     refine sk ?_;repeat apply TW.seq
     refine rk [4] [] (f3 hh c3 c5) ?_;clear hh h;intro h hh;cases H;exact rt hh
    repeat apply TW.seq
    refine ct (f2 hh (decide_eq_true c7)) ?_;repeat apply TW.seq
    refine rk [4] [] (f3 hh c3 c5) ?_;clear hh h;intro h hh;cases H;exact rt hh
   repeat apply TW.seq
   refine ct (f2 hh (decide_eq_true c6)) ?_;repeat apply TW.seq
   refine rk [4] [] (f3 hh c3 c5) ?_;clear hh h;intro h hh;cases H;exact rt hh
  repeat apply TW.seq
  refine ct (f2 hh c5) ?_;repeat apply TW.seq
  refine rk [4] [] (f3 hh c3 c5) ?_;clear hh h;intro h hh;cases H;exact rt hh
 repeat apply TW.seq
 refine ct (f2 hh c3) ?_;repeat apply TW.seq
 refine rk [12] [] (f2 hh c3) ?_;clear hh h;intro h hh;rcases isb H with ⟨c4,H⟩|⟨c4,H⟩;rotate_left
 ·skip;repeat apply TW.seq
  refine cf (f2 hh c4) ?_;repeat apply TW.seq
  refine sk ?_;repeat apply TW.seq
  refine rk [4] [] (f3 hh c3 c4) ?_;clear hh h;intro h hh;cases H;exact rt hh
 repeat apply TW.seq
 refine ct (f2 hh c4) ?_;repeat apply TW.seq
 refine rk [4] [] (f3 hh c3 c4) ?_;clear hh h;intro h hh;cases H;exact rt hh
def za5 (k:Nat) (s1:List Int) (s2:List Int):Nat→Int→Option (Int ⊕ Unit)
 |0,_=>none
 |m+1,i=>(if i<(s1.length:Int) then (if (0:Int)≤i∧i<(s1.length:Int) then (if (s2.length:Int)≤i then some (.inl 1) else (if (0:Int)≤i∧i<(s2.length:Int) then ((zeo k (gx s1 i) (gx s2 i)).bind fun rint=>(if rint≠0 then some (.inl rint) else za5 k s1 s2 m (IntKind.i64.wrap (i+1)))) else none)) else none) else some (.inr ()))
def zd9 (k:Nat) (s1:List Int) (s2:List Int):Option Int:=((za5 k s1 s2 k 0:Option (Int ⊕ Unit)).bind fun o=>Sum.elim (fun r=>some r) (fun s_=>(if (s1.length:Int)<(s2.length:Int) then some (-1) else some 0)) o)
set_option maxHeartbeats 8000000 in
theorem zk5 (ax:Axs) (hx:zbe ax) (k:Nat) (s1:List Int) (s2:List Int) (v:Int) (H:zd9 k s1 s2=some v):Pure Tryz.prog (EE ax) [] 72 [ints s1,ints s2] (.int .i64 v):=by
 rw [zd9] at H;refine en [.tmp 4] 36 [0,1] (hx.no _ (by decide)) (fn72 ax) ?_;intro h hh;repeat apply TW.seq
 refine rk [0,1] [] hh ?_;clear hh h;intro h hh;repeat apply TW.seq
 refine rk [0,1,9,10,11] [] hh ?_;clear hh h;intro h hh;obtain ⟨o,H1,H⟩:=zad H;repeat apply TW.seq
 refine cu [0,1] 0 (fun h bs=>∃ s_:Unit,o=.inr s_∧(h 0=ints s1∧h 1=ints s2)∧bs=[]) ?_ ?_
 ·skip;repeat apply TW.seq
  apply TW.block;repeat apply TW.seq
  refine TW.loopT [0,1,9,10,11] (fun m h bs=>∃ (i:Int),za5 k s1 s2 m i=some o∧(h 0=ints s1∧h 1=ints s2∧h 9=ints s1∧h 10=.int .i64 (s1.length:Int)∧h 11=.int .i64 i)∧bs=[]) ?_ k _ _ ?_;rotate_left
  ·exact ⟨0,H1,kq hh,rfl⟩
  clear hh h H1;rintro m h bs ⟨i,H1,hh,rfl⟩;rcases m with _|m
  ·rw [za5] at H1;cases H1
  rw [za5] at H1;repeat apply TW.seq
  refine rk [0,1,9,10,11,12] [] hh ?_;clear hh h;intro h hh;rcases isp H1 with ⟨c1,H1⟩|⟨c1,H1⟩;rotate_left
  ·skip;repeat apply TW.seq
   refine cf (f2 hh (decide_eq_false c1)) ?_;refine xk ?_;cases H1;exact ce hh ⟨_,rfl,kq hh,rfl⟩
  repeat apply TW.seq
  refine ct (f2 hh (decide_eq_true c1)) ?_;repeat apply TW.seq
  refine sk ?_;repeat apply TW.seq
  apply TW.block;obtain ⟨g2,H1⟩:=isg H1;repeat apply TW.seq
  refine rk [0,1,5,6,9,10,11] [] (f2 hh (zai g2)) ?_;clear hh h;intro h hh;repeat apply TW.seq
  refine rk [0,1,5,6,9,10,11,19] [] hh ?_;clear hh h;intro h hh;rcases isp H1 with ⟨c3,H1⟩|⟨c3,H1⟩;rotate_left
  ·skip;repeat apply TW.seq
   refine cf (f2 hh (decide_eq_false c3)) ?_;repeat apply TW.seq
   refine sk ?_;obtain ⟨g4,H1⟩:=isg H1;repeat apply TW.seq
   refine rk [0,1,6,7,9,10,11] [] (f2 hh (zai g4)) ?_;clear hh h;intro h hh;obtain ⟨rint,e5,H1⟩:=zad H1;repeat apply TW.seq
   refine rkc [0,1,8,9,10,11] [] [(.int .i64 rint,stL [])] hh ?_ ?_
   ·exact ⟨zak.call ((zm4 ax hx k (gx s1 i) (gx s2 i) rint e5 ).call _),trivial⟩
   clear hh h;intro h hh;repeat apply TW.seq
   refine rk [0,1,8,9,10,11,28] [] hh ?_;clear hh h;intro h hh;rcases isp H1 with ⟨c6,H1⟩|⟨c6,H1⟩;rotate_left
   ·skip;repeat apply TW.seq
    refine cf (f2 hh (decide_eq_false c6)) ?_;repeat apply TW.seq
    refine sk ?_;repeat apply TW.seq
    refine rk [0,1,9,10,11] [] hh ?_;clear hh h;intro h hh;exact rd m hh ⟨(IntKind.i64.wrap (i+1)),H1,kq hh,rfl⟩
   repeat apply TW.seq
   refine ct (f2 hh (decide_eq_true c6)) ?_;repeat apply TW.seq
   refine rk [4] [] hh ?_;clear hh h;intro h hh;cases H1;obtain rfl:=sinl H;exact rt hh
  repeat apply TW.seq
  refine ct (f2 hh (decide_eq_true c3)) ?_;repeat apply TW.seq
  refine rk [4] [] hh ?_;clear hh h;intro h hh;cases H1;obtain rfl:=sinl H;exact rt hh
 clear hh h;rintro h bs ⟨s_,rfl,hh,rfl⟩;replace H:=sinr H;repeat apply TW.seq
 refine rk [35] [] hh ?_;clear hh h;intro h hh;rcases isp H with ⟨c7,H⟩|⟨c7,H⟩;rotate_left
 ·skip;repeat apply TW.seq
  refine cf (f2 hh (decide_eq_false c7)) ?_;repeat apply TW.seq
  refine sk ?_;repeat apply TW.seq
  refine rk [4] [] hh ?_;clear hh h;intro h hh;cases H;exact rt hh
 repeat apply TW.seq
 refine ct (f2 hh (decide_eq_true c7)) ?_;repeat apply TW.seq
 refine rk [4] [] hh ?_;clear hh h;intro h hh;cases H;exact rt hh
def zci (k:Nat) (a:Ar 10) (b:Ar 10):Option Int:=((zd9 k a.l b.l).bind fun rint=>some rint)
set_option maxHeartbeats 8000000 in
theorem zlg (ax:Axs) (hx:zbe ax) (k:Nat) (a:Ar 10) (b:Ar 10) (v:Int) (H:zci k a b=some v):Pure Tryz.prog (EE ax) [] 35 [.agg (a.l.map (T.int .i64)),.agg (b.l.map (T.int .i64))] (.int .i64 v):=by
 rw [zci] at H;refine en [.tmp 4] 8 [0,1] (hx.no _ (by decide)) (fn35 ax) ?_;intro h hh;repeat apply TW.seq
 refine rk [2,3] [] hh ?_;clear hh h;intro h hh;obtain ⟨rint,e1,H⟩:=zad H;repeat apply TW.seq
 refine dk 0 [4] [] [] [(.int .i64 rint,stL [.cells true 10 (a.l.map (T.int .i64)),.cells true 10 (b.l.map (T.int .i64))])] hh trivial ?_ ?_
 ·exact ⟨(by have q:=zak.call (Pure.lend (S:=stL [.cells true 10 (a.l.map (T.int .i64)),.cells true 10 (b.l.map (T.int .i64))]) (args:=[.arr 0 1 0 10 10 10,.arr 1 1 0 10 10 10]) (zk5 ax hx k a.l b.l rint e1 ) (And.intro (z5l (fun _=>rfl) (by rfl) (Ar.len a)) (And.intro (z5l (fun _=>rfl) (by rfl) (Ar.len b)) (trivial))) rfl);exact q),trivial⟩
 clear hh h;intro h hh;cases H;exact rt hh
def zco (k:Nat) (n:Net) (t:List Rule) (k_:Int) (l:List Int) (h_:Ar 10):Option Bool:=((((znz k n [t]).bind fun rright=>(if rright=true then (if 20<(l.length:Int) then some true else ((zdo k h_).bind fun rRightHead=>some (!rRightHead))) else some true)):Option Bool).bind fun s_=>(if s_=true then some true else ((zbf k t k_).bind fun rHandles=>((zcs k t k_).bind fun rHandles2=>((zdu k t).bind fun rShadowed=>(((if rHandles.1=rHandles2.1 then (if rHandles.2=true then (if rHandles2.2=true then ((zdc k t).bind fun rShadowed2=>((zdd k rShadowed rShadowed2).bind fun rSameInts=>(if rSameInts=true then ((zcd k t l).bind fun rWithout=>((zd3 k t l).bind fun rWithout2=>((zhk k rWithout rWithout2).bind fun rSame=>some (true,(!rSame))))) else some (true,true)))) else some (true,true)) else (if rHandles2.2=true then some (false,true) else ((zdc k t).bind fun rShadowed3=>((zdd k rShadowed rShadowed3).bind fun rSameInts2=>(if rSameInts2=true then ((zcd k t l).bind fun rWithout3=>((zd3 k t l).bind fun rWithout4=>((zhk k rWithout3 rWithout4).bind fun rSame2=>some (false,(!rSame2))))) else some (false,true)))))) else some (rHandles.2,true)):Option (Bool×Bool)).bind fun s_2=>(if s_2.2=true then some false else (((if s_2.1=true then ((zcr k t rHandles.1).bind fun rLookup=>some (true,(decide (rLookup≠k_)))) else some (false,false)):Option (Bool×Bool)).bind fun s_3=>(if s_3.2=true then some false else ((zcr k t h_).bind fun rLookup2=>(((if rLookup2=k_ then (if 0≤k_ then (if s_3.1=true then ((zci k rHandles.1 h_).bind fun rCompareHeads=>some (decide (0<rCompareHeads))) else some true) else some false) else some false):Option Bool).bind fun s_4=>(if s_4=true then some false else ((zcd k t rShadowed).bind fun rWithout5=>((zcr k rWithout5 h_).bind fun rLookup3=>(((if rLookup2<0 then (if rLookup3<0 then some false else some true) else (if rLookup3<0 then some true else (if (0:Int)≤rLookup2∧rLookup2<(t.length:Int) then (if (0:Int)≤rLookup3∧rLookup3<(rWithout5.length:Int) then ((zdv k (gx t rLookup2) (gx rWithout5 rLookup3)).bind fun rSameRule=>some (!rSameRule)) else none) else none))):Option Bool).bind fun s_5=>(if s_5=true then some false else ((zdu k rWithout5).bind fun rShadowed4=>some (decide ((rShadowed4.length:Int)=0)))))))))))))))))))
set_option maxHeartbeats 8000000 in
theorem zke (ax:Axs) (hx:zbe ax) (k:Nat) (n:Net) (t:List Rule) (k_:Int) (l:List Int) (h_:Ar 10) (v:Bool) (H:zco k n t k_ l h_=some v):Pure Tryz.prog (EE ax) [] 5 [eNet n,zbp t,.int .i64 k_,ints l,.agg (h_.l.map (T.int .i64))] (.bool v):=by
 rw [zco] at H;refine en [.tmp 10] 136 [0,1,2,3,4] (hx.no _ (by decide)) (fn5 ax) ?_;intro h hh;repeat apply TW.seq
 refine rk [1,2,3,5,9] [] hh ?_;clear hh h;intro h hh;obtain ⟨s_,H1,H⟩:=zad H;repeat apply TW.seq
 refine cu [1,2,3,9,33] 2 (fun h bs=>(h 1=zbp t∧h 2=.int .i64 k_∧h 3=ints l∧h 9=.ptr 1 0 10∧h 33=.bool s_)∧bs=[.cells true 3 [zar n.nodes,zas n.links,zat n.edges],.cells true 10 (h_.l.map (T.int .i64))]) ?_ ?_
 ·skip;obtain ⟨rright,e1,H1⟩:=zad H1;rcases isb H1 with ⟨c2,H1⟩|⟨c2,H1⟩;rotate_left
  ·skip;repeat apply TW.seq
   refine rkc [1,2,3,9,33] [] [(.bool rright,stL [.cells true 3 [zar n.nodes,zas n.links,zat n.edges],.cells true 10 (h_.l.map (T.int .i64))])] (f3 hh c2 (ykf ax)) ?_ ?_
   ·exact ⟨zak.call (Pure.clr (zm0 ax hx k n [t] rright e1 ) (by first|rfl|simp only [c2])),trivial⟩
   clear hh h;intro h hh;cases H1;exact ce hh ⟨kq hh,rfl⟩
  rcases isp H1 with ⟨c3,H1⟩|⟨c3,H1⟩;rotate_left
  ·skip;obtain ⟨rRightHead,e4,H1⟩:=zad H1;repeat apply TW.seq
   refine rkc [1,2,3,9,33] [] [(.bool rright,stL [.cells true 3 [zar n.nodes,zas n.links,zat n.edges],.cells true 10 (h_.l.map (T.int .i64))]),(.bool rRightHead,stL [.cells true 3 [zar n.nodes,zas n.links,zat n.edges],.cells true 10 (h_.l.map (T.int .i64))])] (f3 hh c2 (f2 (decide_eq_false c3) (ykf ax))) ?_ ?_
   ·exact ⟨zak.call (Pure.clr (zm0 ax hx k n [t] rright e1 ) (by first|rfl|simp only [c2])),zak.call (Pure.clr (zg6 ax hx k h_ rRightHead e4 ) (by first|rfl|simp only [c2])),trivial⟩
   clear hh h;intro h hh;cases H1;exact ce hh ⟨kq hh,rfl⟩
  repeat apply TW.seq
  refine rkc [1,2,3,9,33] [] [(.bool rright,stL [.cells true 3 [zar n.nodes,zas n.links,zat n.edges],.cells true 10 (h_.l.map (T.int .i64))])] (f3 hh c2 (f2 (decide_eq_true c3) (ykf ax))) ?_ ?_
  ·exact ⟨zak.call (Pure.clr (zm0 ax hx k n [t] rright e1 ) (by first|rfl|simp only [c2])),trivial⟩
  clear hh h;intro h hh;cases H1;exact ce hh ⟨kq hh,rfl⟩
 clear hh h;rintro h bs ⟨hh,rfl⟩;rcases isb H with ⟨c5,H⟩|⟨c5,H⟩;rotate_left
 ·skip;repeat apply TW.seq
  refine cf (f2 hh c5) ?_;repeat apply TW.seq
  refine sk ?_;obtain ⟨rHandles,e6,H⟩:=zad H;repeat apply TW.seq
  refine rkc [1,2,3,9,11,12] [] [(.tup [.agg (rHandles.1.l.map (T.int .i64)),.bool rHandles.2],stL [.cells true 3 [zar n.nodes,zas n.links,zat n.edges],.cells true 10 (h_.l.map (T.int .i64))])] (f2 hh c5) ?_ ?_
  ·exact ⟨zak.call (Pure.clr (zjp ax hx k t k_ rHandles e6 ) (by first|rfl|simp only [c5])),trivial⟩
  clear hh h;intro h hh;obtain ⟨rHandles2,e7,H⟩:=zad H;repeat apply TW.seq
  refine rkc [1,2,3,9,11,12,13,14] [] [(.tup [.agg (rHandles2.1.l.map (T.int .i64)),.bool rHandles2.2],stL [.cells true 3 [zar n.nodes,zas n.links,zat n.edges],.cells true 10 (h_.l.map (T.int .i64)),.cells true 10 (rHandles.1.l.map (T.int .i64))])] (f2 hh c5) ?_ ?_
  ·exact ⟨zak.call (Pure.clr (zld ax hx k t k_ rHandles2 e7 ) (by first|rfl|simp only [c5])),trivial⟩
  clear hh h;intro h hh;obtain ⟨rShadowed,e8,H⟩:=zad H;repeat apply TW.seq
  refine rkc [1,2,3,9,11,12,13,14,15] [] [(ints rShadowed,stL [.cells true 3 [zar n.nodes,zas n.links,zat n.edges],.cells true 10 (h_.l.map (T.int .i64)),.cells true 10 (rHandles.1.l.map (T.int .i64)),.cells true 10 (rHandles2.1.l.map (T.int .i64))])] (f2 hh c5) ?_ ?_
  ·exact ⟨zak.call (Pure.clr (ziy ax hx k t rShadowed e8 ) (by first|rfl|simp only [c5])),trivial⟩
  clear hh h;intro h hh;obtain ⟨s_2,H1,H⟩:=zad H;repeat apply TW.seq
  refine cu [1,2,9,11,12,15,73] 4 (fun h bs=>(h 1=zbp t∧h 2=.int .i64 k_∧h 9=.ptr 1 0 10∧h 11=.ptr 2 0 10∧h 12=.bool s_2.1∧h 15=ints rShadowed∧h 73=.bool s_2.2)∧bs=[.cells true 3 [zar n.nodes,zas n.links,zat n.edges],.cells true 10 (h_.l.map (T.int .i64)),.cells true 10 (rHandles.1.l.map (T.int .i64)),.cells true 10 (rHandles2.1.l.map (T.int .i64))]) ?_ ?_
  ·skip;rcases isp H1 with ⟨c9,H1⟩|⟨c9,H1⟩;rotate_left
   ·skip;repeat apply TW.seq
    refine rk [1,2,9,11,12,15,73] [] (f3 hh (decide_eq_false c9) (f2 c5 ((aq39 ax rHandles.1 rHandles2.1).2))) ?_;clear hh h;intro h hh;cases H1;exact ce hh ⟨kq hh,rfl⟩
   rcases isb H1 with ⟨c10,H1⟩|⟨c10,H1⟩;rotate_left
   ·skip;rcases isb H1 with ⟨c18,H1⟩|⟨c18,H1⟩;rotate_left
    ·skip;obtain ⟨rShadowed3,e19,H1⟩:=zad H1;obtain ⟨rSameInts2,e20,H1⟩:=zad H1;rcases isb H1 with ⟨c21,H1⟩|⟨c21,H1⟩;rotate_left
     ·skip;repeat apply TW.seq
      refine rkc [1,2,9,11,12,15,73] [] [(ints rShadowed3,stL [.cells true 3 [zar n.nodes,zas n.links,zat n.edges],.cells true 10 (h_.l.map (T.int .i64)),.cells true 10 (rHandles.1.l.map (T.int .i64)),.cells true 10 (rHandles2.1.l.map (T.int .i64))]),(.bool rSameInts2,stL [.cells true 3 [zar n.nodes,zas n.links,zat n.edges],.cells true 10 (h_.l.map (T.int .i64)),.cells true 10 (rHandles.1.l.map (T.int .i64)),.cells true 10 (rHandles2.1.l.map (T.int .i64))])] (f3 hh (decide_eq_true c9) (f3 c10 c18 (f3 c21 c5 ((aq39 ax rHandles.1 rHandles2.1).2)))) ?_ ?_
      ·exact ⟨zak.call (Pure.clr (zf0 ax hx k t rShadowed3 e19 ) (by first|rfl|simp only [c5,c10,c18,c21])),zak.call (Pure.clr (zf1 ax hx k rShadowed rShadowed3 rSameInts2 e20 ) (by first|rfl|simp only [c5,c10,c18,c21])),trivial⟩
      clear hh h;intro h hh;cases H1;exact ce hh ⟨kq (f2 hh c10),rfl⟩
     obtain ⟨rWithout3,e22,H1⟩:=zad H1;obtain ⟨rWithout4,e23,H1⟩:=zad H1;obtain ⟨rSame2,e24,H1⟩:=zad H1;repeat apply TW.seq
     refine rkc [1,2,9,11,12,15,73] [] [(ints rShadowed3,stL [.cells true 3 [zar n.nodes,zas n.links,zat n.edges],.cells true 10 (h_.l.map (T.int .i64)),.cells true 10 (rHandles.1.l.map (T.int .i64)),.cells true 10 (rHandles2.1.l.map (T.int .i64))]),(.bool rSameInts2,stL [.cells true 3 [zar n.nodes,zas n.links,zat n.edges],.cells true 10 (h_.l.map (T.int .i64)),.cells true 10 (rHandles.1.l.map (T.int .i64)),.cells true 10 (rHandles2.1.l.map (T.int .i64))]),(zbp rWithout3,stL [.cells true 3 [zar n.nodes,zas n.links,zat n.edges],.cells true 10 (h_.l.map (T.int .i64)),.cells true 10 (rHandles.1.l.map (T.int .i64)),.cells true 10 (rHandles2.1.l.map (T.int .i64))]),(zbp rWithout4,stL [.cells true 3 [zar n.nodes,zas n.links,zat n.edges],.cells true 10 (h_.l.map (T.int .i64)),.cells true 10 (rHandles.1.l.map (T.int .i64)),.cells true 10 (rHandles2.1.l.map (T.int .i64))]),(.bool rSame2,stL [.cells true 3 [zar n.nodes,zas n.links,zat n.edges],.cells true 10 (h_.l.map (T.int .i64)),.cells true 10 (rHandles.1.l.map (T.int .i64)),.cells true 10 (rHandles2.1.l.map (T.int .i64))])] (f3 hh (decide_eq_true c9) (f3 c10 c18 (f3 c21 c5 ((aq39 ax rHandles.1 rHandles2.1).2)))) ?_ ?_
     ·exact ⟨zak.call (Pure.clr (zf0 ax hx k t rShadowed3 e19 ) (by first|rfl|simp only [c5,c10,c18,c21])),zak.call (Pure.clr (zf1 ax hx k rShadowed rShadowed3 rSameInts2 e20 ) (by first|rfl|simp only [c5,c10,c18,c21])),zak.call (Pure.clr (zg3 ax hx k t l rWithout3 e22 ) (by first|rfl|simp only [c5,c10,c18,c21])),zak.call (Pure.clr (zlc ax hx k t l rWithout4 e23 ) (by first|rfl|simp only [c5,c10,c18,c21])),zak.call (Pure.clr (zpw ax hx k rWithout3 rWithout4 rSame2 e24 ) (by first|rfl|simp only [c5,c10,c18,c21])),trivial⟩
     clear hh h;intro h hh;cases H1;exact ce hh ⟨kq (f2 hh c10),rfl⟩
    repeat apply TW.seq
    refine rk [1,2,9,11,12,15,73] [] (f3 hh (decide_eq_true c9) (f3 c10 c18 (f2 c5 ((aq39 ax rHandles.1 rHandles2.1).2)))) ?_;clear hh h;intro h hh;cases H1;exact ce hh ⟨kq (f2 hh c10),rfl⟩
   rcases isb H1 with ⟨c11,H1⟩|⟨c11,H1⟩;rotate_left
   ·skip;repeat apply TW.seq
    refine rk [1,2,9,11,12,15,73] [] (f3 hh (decide_eq_true c9) (f3 c10 c11 (f2 c5 ((aq39 ax rHandles.1 rHandles2.1).2)))) ?_;clear hh h;intro h hh;cases H1;exact ce hh ⟨kq (f2 hh c10),rfl⟩
   obtain ⟨rShadowed2,e12,H1⟩:=zad H1;obtain ⟨rSameInts,e13,H1⟩:=zad H1;rcases isb H1 with ⟨c14,H1⟩|⟨c14,H1⟩;rotate_left
   ·skip;repeat apply TW.seq
    refine rkc [1,2,9,11,12,15,73] [] [(ints rShadowed2,stL [.cells true 3 [zar n.nodes,zas n.links,zat n.edges],.cells true 10 (h_.l.map (T.int .i64)),.cells true 10 (rHandles.1.l.map (T.int .i64)),.cells true 10 (rHandles2.1.l.map (T.int .i64))]),(.bool rSameInts,stL [.cells true 3 [zar n.nodes,zas n.links,zat n.edges],.cells true 10 (h_.l.map (T.int .i64)),.cells true 10 (rHandles.1.l.map (T.int .i64)),.cells true 10 (rHandles2.1.l.map (T.int .i64))])] (f3 hh (decide_eq_true c9) (f3 c10 c11 (f3 c14 c5 ((aq39 ax rHandles.1 rHandles2.1).2)))) ?_ ?_
    ·exact ⟨zak.call (Pure.clr (zf0 ax hx k t rShadowed2 e12 ) (by first|rfl|simp only [c5,c10,c11,c14])),zak.call (Pure.clr (zf1 ax hx k rShadowed rShadowed2 rSameInts e13 ) (by first|rfl|simp only [c5,c10,c11,c14])),trivial⟩
    clear hh h;intro h hh;cases H1;exact ce hh ⟨kq (f2 hh c10),rfl⟩
   obtain ⟨rWithout,e15,H1⟩:=zad H1;obtain ⟨rWithout2,e16,H1⟩:=zad H1;obtain ⟨rSame,e17,H1⟩:=zad H1;repeat apply TW.seq
   refine rkc [1,2,9,11,12,15,73] [] [(ints rShadowed2,stL [.cells true 3 [zar n.nodes,zas n.links,zat n.edges],.cells true 10 (h_.l.map (T.int .i64)),.cells true 10 (rHandles.1.l.map (T.int .i64)),.cells true 10 (rHandles2.1.l.map (T.int .i64))]),(.bool rSameInts,stL [.cells true 3 [zar n.nodes,zas n.links,zat n.edges],.cells true 10 (h_.l.map (T.int .i64)),.cells true 10 (rHandles.1.l.map (T.int .i64)),.cells true 10 (rHandles2.1.l.map (T.int .i64))]),(zbp rWithout,stL [.cells true 3 [zar n.nodes,zas n.links,zat n.edges],.cells true 10 (h_.l.map (T.int .i64)),.cells true 10 (rHandles.1.l.map (T.int .i64)),.cells true 10 (rHandles2.1.l.map (T.int .i64))]),(zbp rWithout2,stL [.cells true 3 [zar n.nodes,zas n.links,zat n.edges],.cells true 10 (h_.l.map (T.int .i64)),.cells true 10 (rHandles.1.l.map (T.int .i64)),.cells true 10 (rHandles2.1.l.map (T.int .i64))]),(.bool rSame,stL [.cells true 3 [zar n.nodes,zas n.links,zat n.edges],.cells true 10 (h_.l.map (T.int .i64)),.cells true 10 (rHandles.1.l.map (T.int .i64)),.cells true 10 (rHandles2.1.l.map (T.int .i64))])] (f3 hh (decide_eq_true c9) (f3 c10 c11 (f3 c14 c5 ((aq39 ax rHandles.1 rHandles2.1).2)))) ?_ ?_
   ·exact ⟨zak.call (Pure.clr (zf0 ax hx k t rShadowed2 e12 ) (by first|rfl|simp only [c5,c10,c11,c14])),zak.call (Pure.clr (zf1 ax hx k rShadowed rShadowed2 rSameInts e13 ) (by first|rfl|simp only [c5,c10,c11,c14])),zak.call (Pure.clr (zg3 ax hx k t l rWithout e15 ) (by first|rfl|simp only [c5,c10,c11,c14])),zak.call (Pure.clr (zlc ax hx k t l rWithout2 e16 ) (by first|rfl|simp only [c5,c10,c11,c14])),zak.call (Pure.clr (zpw ax hx k rWithout rWithout2 rSame e17 ) (by first|rfl|simp only [c5,c10,c11,c14])),trivial⟩
   clear hh h;intro h hh;cases H1;exact ce hh ⟨kq (f2 hh c10),rfl⟩
  clear hh h;rintro h bs ⟨hh,rfl⟩;rcases isb H with ⟨c25,H⟩|⟨c25,H⟩;rotate_left
  ·skip;repeat apply TW.seq
   refine cf (f2 hh c25) ?_;repeat apply TW.seq
   refine sk ?_;obtain ⟨s_3,H1,H⟩:=zad H;repeat apply TW.seq
   refine cu [1,2,9,11,12,15,81] 4 (fun h bs=>(h 1=zbp t∧h 2=.int .i64 k_∧h 9=.ptr 1 0 10∧h 11=.ptr 2 0 10∧h 12=.bool s_3.1∧h 15=ints rShadowed∧h 81=.bool s_3.2)∧bs=[.cells true 3 [zar n.nodes,zas n.links,zat n.edges],.cells true 10 (h_.l.map (T.int .i64)),.cells true 10 (rHandles.1.l.map (T.int .i64)),.cells true 10 (rHandles2.1.l.map (T.int .i64))]) ?_ ?_
   ·skip;rcases isb H1 with ⟨c26,H1⟩|⟨c26,H1⟩;rotate_left
    ·skip;repeat apply TW.seq
     refine rk [1,2,9,11,12,15,81] [] (f3 hh c26 (f2 c5 c25)) ?_;clear hh h;intro h hh;cases H1;exact ce hh ⟨kq (f2 hh c26),rfl⟩
    obtain ⟨rLookup,e27,H1⟩:=zad H1;repeat apply TW.seq
    refine rkc [1,2,9,11,12,15,81] [] [(.int .i64 rLookup,stL [.cells true 3 [zar n.nodes,zas n.links,zat n.edges],.cells true 10 (h_.l.map (T.int .i64)),.cells true 10 (rHandles.1.l.map (T.int .i64)),.cells true 10 (rHandles2.1.l.map (T.int .i64))])] (f3 hh c26 (f2 c5 c25)) ?_ ?_
    ·exact ⟨zak.call (Pure.clr (zht ax hx k t rHandles.1 rLookup e27 ) (by first|rfl|simp only [c5,c25,c26])),trivial⟩
    clear hh h;intro h hh;cases H1;exact ce hh ⟨kq (f2 hh c26),rfl⟩
   clear hh h;rintro h bs ⟨hh,rfl⟩;rcases isb H with ⟨c28,H⟩|⟨c28,H⟩;rotate_left
   ·skip;repeat apply TW.seq
    refine cf (f2 hh c28) ?_;repeat apply TW.seq
    refine sk ?_;obtain ⟨rLookup2,e29,H⟩:=zad H;repeat apply TW.seq
    refine rkc [1,2,9,11,12,15,16] [] [(.int .i64 rLookup2,stL [.cells true 3 [zar n.nodes,zas n.links,zat n.edges],.cells true 10 (h_.l.map (T.int .i64)),.cells true 10 (rHandles.1.l.map (T.int .i64)),.cells true 10 (rHandles2.1.l.map (T.int .i64))])] (f3 hh c5 (f2 c25 c28)) ?_ ?_
    ·exact ⟨zak.call (Pure.clr (zht ax hx k t h_ rLookup2 e29 ) (by first|rfl|simp only [c5,c25,c28])),trivial⟩
    clear hh h;intro h hh;obtain ⟨s_4,H1,H⟩:=zad H;repeat apply TW.seq
    refine cu [1,9,15,16,101] 4 (fun h bs=>(h 1=zbp t∧h 9=.ptr 1 0 10∧h 15=ints rShadowed∧h 16=.int .i64 rLookup2∧h 101=.bool s_4)∧bs=[.cells true 3 [zar n.nodes,zas n.links,zat n.edges],.cells true 10 (h_.l.map (T.int .i64)),.cells true 10 (rHandles.1.l.map (T.int .i64)),.cells true 10 (rHandles2.1.l.map (T.int .i64))]) ?_ ?_
    ·skip;rcases isp H1 with ⟨c30,H1⟩|⟨c30,H1⟩;rotate_left
     ·skip;repeat apply TW.seq
      refine rk [1,9,15,16,101] [] (f3 hh (decide_eq_false c30) (f3 c5 c25 c28)) ?_;clear hh h;intro h hh;cases H1;exact ce hh ⟨kq hh,rfl⟩
     rcases isp H1 with ⟨c31,H1⟩|⟨c31,H1⟩;rotate_left
     ·skip;repeat apply TW.seq
      refine rk [1,9,15,16,101] [] (f3 hh (decide_eq_true c30) (f3 (decide_eq_false c31) c5 (f2 c25 c28))) ?_;clear hh h;intro h hh;cases H1;exact ce hh ⟨kq hh,rfl⟩
     rcases isb H1 with ⟨c32,H1⟩|⟨c32,H1⟩;rotate_left
     ·skip;repeat apply TW.seq
      refine rk [1,9,15,16,101] [] (f3 hh (decide_eq_true c30) (f3 (decide_eq_true c31) c32 (f3 c5 c25 c28))) ?_;clear hh h;intro h hh;cases H1;exact ce hh ⟨kq hh,rfl⟩
     obtain ⟨rCompareHeads,e33,H1⟩:=zad H1;repeat apply TW.seq
     refine rkc [1,9,15,16,101] [] [(.int .i64 rCompareHeads,stL [.cells true 3 [zar n.nodes,zas n.links,zat n.edges],.cells true 10 (h_.l.map (T.int .i64)),.cells true 10 (rHandles.1.l.map (T.int .i64)),.cells true 10 (rHandles2.1.l.map (T.int .i64))])] (f3 hh (decide_eq_true c30) (f3 (decide_eq_true c31) c32 (f3 c5 c25 c28))) ?_ ?_
     ·exact ⟨zak.call (Pure.clr (zlg ax hx k rHandles.1 h_ rCompareHeads e33 ) (by first|rfl|simp only [c5,c25,c28,c32])),trivial⟩
     clear hh h;intro h hh;cases H1;exact ce hh ⟨kq hh,rfl⟩
    clear hh h;rintro h bs ⟨hh,rfl⟩;rcases isb H with ⟨c34,H⟩|⟨c34,H⟩;rotate_left
    ·skip;repeat apply TW.seq
     refine cf (f2 hh c34) ?_;repeat apply TW.seq
     refine sk ?_;obtain ⟨rWithout5,e35,H⟩:=zad H;repeat apply TW.seq
     refine rkc [1,9,16,17] [] [(zbp rWithout5,stL [.cells true 3 [zar n.nodes,zas n.links,zat n.edges],.cells true 10 (h_.l.map (T.int .i64)),.cells true 10 (rHandles.1.l.map (T.int .i64)),.cells true 10 (rHandles2.1.l.map (T.int .i64))])] (f3 hh c5 (f3 c25 c28 c34)) ?_ ?_
     ·exact ⟨zak.call (Pure.clr (zg3 ax hx k t rShadowed rWithout5 e35 ) (by first|rfl|simp only [c5,c25,c28,c34])),trivial⟩
     clear hh h;intro h hh;obtain ⟨rLookup3,e36,H⟩:=zad H;repeat apply TW.seq
     refine rkc [1,16,17,18] [] [(.int .i64 rLookup3,stL [.cells true 3 [zar n.nodes,zas n.links,zat n.edges],.cells true 10 (h_.l.map (T.int .i64)),.cells true 10 (rHandles.1.l.map (T.int .i64)),.cells true 10 (rHandles2.1.l.map (T.int .i64))])] (f3 hh c5 (f3 c25 c28 c34)) ?_ ?_
     ·exact ⟨zak.call (Pure.clr (zht ax hx k rWithout5 h_ rLookup3 e36 ) (by first|rfl|simp only [c5,c25,c28,c34])),trivial⟩
     clear hh h;intro h hh;obtain ⟨s_5,H1,H⟩:=zad H;repeat apply TW.seq
     refine cu [17,128] 4 (fun h bs=>(h 17=zbp rWithout5∧h 128=.bool s_5)∧bs=[.cells true 3 [zar n.nodes,zas n.links,zat n.edges],.cells true 10 (h_.l.map (T.int .i64)),.cells true 10 (rHandles.1.l.map (T.int .i64)),.cells true 10 (rHandles2.1.l.map (T.int .i64))]) ?_ ?_
     ·skip;rcases isp H1 with ⟨c37,H1⟩|⟨c37,H1⟩;rotate_left
      ·skip;rcases isp H1 with ⟨c40,H1⟩|⟨c40,H1⟩;rotate_left
       ·skip;obtain ⟨g42,H1⟩:=isg H1;obtain ⟨g43,H1⟩:=isg H1;obtain ⟨rSameRule,e44,H1⟩:=zad H1;repeat apply TW.seq
        refine dk 17 [17,128] [] [] [(.bool rSameRule,stL [.cells true 3 [zar n.nodes,zas n.links,zat n.edges],.cells true 10 (h_.l.map (T.int .i64)),.cells true 10 (rHandles.1.l.map (T.int .i64)),.cells true 10 (rHandles2.1.l.map (T.int .i64))])] (f3 hh (decide_eq_false c37) (f3 (decide_eq_false c40) (decide_eq_true (p:=0≤rLookup2) (by omega)) (f3 c5 c25 (f3 c28 c34 (f2 (zai g42) (zai g43)))))) trivial ?_ ?_
        ·exact ⟨zak.call (Pure.clr (zno ax hx k (gx t rLookup2) (gx rWithout5 rLookup3) rSameRule e44 ) (by first|rfl|simp only [c5,c25,c28,c34])),trivial⟩
        clear hh h;intro h hh;cases H1;exact ce hh ⟨kq hh,rfl⟩
       repeat apply TW.seq
       refine dk 17 [17,128] [] [] [] (f3 hh (decide_eq_false c37) (f3 (decide_eq_true c40) c5 (f3 c25 c28 c34))) trivial trivial ?_;clear hh h;intro h hh;cases H1;exact ce hh ⟨kq hh,rfl⟩
      rcases isp H1 with ⟨c38,H1⟩|⟨c38,H1⟩;rotate_left
      ·skip;repeat apply TW.seq
       refine dk 17 [17,128] [] [] [] (f3 hh (decide_eq_true c37) (f3 (decide_eq_false c38) c5 (f3 c25 c28 c34))) trivial trivial ?_;clear hh h;intro h hh;cases H1;exact ce hh ⟨kq hh,rfl⟩
      repeat apply TW.seq
      refine dk 17 [17,128] [] [] [] (f3 hh (decide_eq_true c37) (f3 (decide_eq_true c38) (decide_eq_false (p:=0≤rLookup2) (by omega)) (f3 c5 c25 (f2 c28 c34)))) trivial trivial ?_;clear hh h;intro h hh;cases H1;exact ce hh ⟨kq hh,rfl⟩
     clear hh h;rintro h bs ⟨hh,rfl⟩;rcases isb H with ⟨c45,H⟩|⟨c45,H⟩;rotate_left
     ·skip;repeat apply TW.seq
      refine cf (f2 hh c45) ?_;repeat apply TW.seq
      refine sk ?_;obtain ⟨rShadowed4,e46,H⟩:=zad H;repeat apply TW.seq
      refine rkc [10] [] [(.bool true,stL [.cells true 3 [zar n.nodes,zas n.links,zat n.edges],.cells true 10 (h_.l.map (T.int .i64)),.cells true 10 (rHandles.1.l.map (T.int .i64)),.cells true 10 (rHandles2.1.l.map (T.int .i64))]),(ints rShadowed4,stL [.cells true 3 [zar n.nodes,zas n.links,zat n.edges],.cells true 10 (h_.l.map (T.int .i64)),.cells true 10 (rHandles.1.l.map (T.int .i64)),.cells true 10 (rHandles2.1.l.map (T.int .i64))])] (f3 hh c5 (f3 c25 c28 (f2 c34 c45))) ?_ ?_
      ·exact ⟨zak.call (Pure.clr hx.san (by first|rfl|simp only [c5,c25,c28,c34,c45])),zak.call (Pure.clr (ziy ax hx k rWithout5 rShadowed4 e46 ) (by first|rfl|simp only [c5,c25,c28,c34,c45])),trivial⟩
      clear hh h;intro h hh;cases H;exact rt hh
     repeat apply TW.seq
     refine ct (f2 hh c45) ?_;repeat apply TW.seq
     refine rk [10] [] (f3 hh c5 (f3 c25 c28 (f2 c34 c45))) ?_;clear hh h;intro h hh;cases H;exact rt hh
    repeat apply TW.seq
    refine ct (f2 hh c34) ?_;repeat apply TW.seq
    refine rk [10] [] (f3 hh c5 (f3 c25 c28 c34)) ?_;clear hh h;intro h hh;cases H;exact rt hh
   repeat apply TW.seq
   refine ct (f2 hh c28) ?_;repeat apply TW.seq
   refine rk [10] [] (f3 hh c5 (f2 c25 c28)) ?_;clear hh h;intro h hh;cases H;exact rt hh
  repeat apply TW.seq
  refine ct (f2 hh c25) ?_;repeat apply TW.seq
  refine rk [10] [] (f3 hh c5 c25) ?_;clear hh h;intro h hh;cases H;exact rt hh
 repeat apply TW.seq
 refine ct (f2 hh c5) ?_;repeat apply TW.seq
 refine rkc [10] [] [(.bool true,stL [.cells true 3 [zar n.nodes,zas n.links,zat n.edges],.cells true 10 (h_.l.map (T.int .i64))])] (f2 hh c5) ?_ ?_
 ·exact ⟨zak.call (Pure.clr hx.san (by first|rfl|simp only [c5])),trivial⟩
 clear hh h;intro h hh;cases H;exact rt hh
end
section
open Go Go.RowKit
theorem ylz {k:Nat} (hk:9223372036854775808≤k) (n:Net) (hh:Held n):∃ b,((znr k n 10 24 20).bind fun rFew=>(if rFew=true then ((zib k n).bind fun rCheck=>some (decide (rCheck≠0))) else some true))=some b∧(b=false→zrq n):=by
  unfold znr;by_cases q1:(n.nodes.length:Int)≤10
  · rw [if_pos q1];by_cases q2:(n.links.length:Int)≤24
    · rw [if_pos q2,Option.bind_some];by_cases q3:(n.edges.length:Int)≤20
      · rw [if_pos (decide_eq_true q3)];obtain ⟨r1,h1,h2⟩:=yf7 hk n (by omega) (by omega) (by omega) hh;rw [h1,Option.bind_some];exact ⟨_,rfl,fun h=>h2 (by simpa using h)⟩
      · rw [if_neg (by simpa using q3)];exact ⟨_,rfl,fun h=>by cases h⟩
    · rw [if_neg q2];exact ⟨_,rfl,fun h=>by cases h⟩
  · rw [if_neg q1];exact ⟨_,rfl,fun h=>by cases h⟩
theorem ykc {t:List Rule} (h:fewT t 8=true):t.length≤8:=by
  unfold fewT at h;rw [Bool.and_eq_true] at h;have:=of_decide_eq_true h.2;omega
theorem z7n {k:Nat} (hk:big≤k) (n:Net) (hn:Held n) (ts:List (List Rule)) (hts:∀ t,t∈ts→z21 t) (h2:ts.length≤2) :
    ∃ b,znz k n ts=some b∧(b=true→zrq n∧(∀ t,t∈ts→t.length≤8∧(zwk n 1000 t).2=0)∧∃ F,Lit ts.flatten F):=by
  have key : ∀ m i, i ≤ ts.length → ts.length - i < m → (ts.take i).flatten.length ≤ 8 * i → (∀ t, t ∈ ts.take i → t.length ≤ 8 ∧ (zwk n 1000 t).2 = 0) →
      ∃ o,zej k n ts m (i:Int) (ts.take i).flatten (ts.take i).flatten.length=some o∧(o=.inl false∨(o=.inr (ts.flatten,ts.flatten.length)∧ts.flatten.length≤16∧∀ t,t∈ts→t.length≤8∧(zwk n 1000 t).2=0)):=by
    intro m
    induction m with
    |zero=>intro i h1 h2;omega
    |succ m ih =>
      intro i h1 hm hl hall;rw [zej];by_cases c:i<ts.length
      · have hok:=hts _ (List.getElem_mem c);rw [if_pos (zah c),if_pos ⟨by omega,zah c⟩,zcx c,yjs _ 8 hok hk,Option.bind_some,zbq i (by omega)]
        cases hf:fewT ts[i] 8 with
        |false=>rw [if_neg (by simp)];exact ⟨_,rfl,.inl rfl⟩
        |true =>
          have h8:=ykc hf;rw [if_pos rfl,yan n 1000 _ hok hk,Option.bind_some];by_cases c2:(zwk n 1000 ts[i]).2=0
          · have hstep:(ts.take (i+1)).flatten=(ts.take i).flatten++ts[i]:=by
              rw [List.take_add_one,List.getElem?_eq_getElem c,Option.toList_some,List.flatten_append];simp
            have:=ih (i+1) (by omega) (by omega) (by rw [hstep,List.length_append];omega) (fun t ht=>by
              rw [List.take_add_one,List.getElem?_eq_getElem c,Option.toList_some] at ht;rcases List.mem_append.1 ht with x|x
              · exact hall t x
              · cases List.mem_singleton.1 x;exact ⟨h8,c2⟩)
            rw [hstep] at this;rw [if_neg (fun h=>h c2),if_pos (by omega)];by_cases cz:(ts[i]).length=0
            · rw [if_pos cz];have ez:=List.eq_nil_of_length_eq_zero cz;rw [ez,List.append_nil] at this;exact this
            · rw [if_neg cz];rw [List.length_append] at this;exact this
          · rw [if_pos c2];exact ⟨_,rfl,.inl rfl⟩
      · obtain rfl:i=ts.length:=by omega
        rw [if_neg (by omega)];rw [List.take_length] at hl hall ⊢;exact ⟨_,rfl,.inr ⟨rfl,by omega,hall⟩⟩
  obtain ⟨b0,e0,hb0⟩:=ylz hk n hn;unfold znz;rw [e0,Option.bind_some]
  cases b0 with
  |true=>exact ⟨false,by rw [if_pos rfl],fun h=>by cases h⟩
  |false =>
    obtain ⟨o,e,ho⟩:=key k 0 (Nat.zero_le _) (by simp only [big] at hk;omega) (by simp) (fun t ht=>by simp at ht);rw [if_neg (by simp)];change zej k n ts k 0 [] 0=some o at e;rw [e,Option.bind_some];rcases ho with rfl|⟨rfl,h16,hall⟩
    · exact ⟨false,rfl,fun h=>by cases h⟩
    · obtain ⟨b,eb,hb⟩:=yam (k:=k) (t:=ts.flatten) (by omega) hk;refine ⟨b,?_,fun h=>⟨hb0 rfl,hall,hb h⟩⟩;rw [Sum.elim_inr,if_pos rfl,eb];rfl
end
section
open Go Go.RowKit
def hR (k:Nat) (t:List Rule) (i:Nat):Ar 10×Bool:=(zbf k t (i:Int)).getD (zA 10,false)
theorem ye9 {k:Nat} {t:List Rule} {F:List Nat} (h:Lit t F) {i:Nat} (hi:i<t.length) (hk:big≤k):zbf k t (i:Int)=some (hR k t i)∧zcs k t (i:Int)=some (hR k t i)∧Res t[i].mat (bef t i) (hR k t i):=by
  obtain ⟨r,h1,h2,h3⟩:=z8p h hi hk;unfold hR;rw [h1];exact ⟨rfl,h2,h3⟩
def zqx (f:Nat→Bool) (i:Nat):List Int:=((List.range i).filter f).map fun j:Nat=>(j:Int)
theorem zvq (f:Nat→Bool) (i:Nat):zqx f (i+1)=if f i=true then zqx f i++[(i:Int)] else zqx f i:=by
  unfold zqx;rw [List.range_succ,List.filter_append,List.map_append];cases h:f i<;>simp [List.filter,h]
theorem zs4 (f:Nat→Bool) (i:Nat):(zqx f i).length≤i:=by
  unfold zqx;rw [List.length_map];exact Nat.le_trans (List.length_filter_le _ _) (by rw [List.length_range];exact Nat.le_refl _)
def gone (k:Nat) (t:List Rule):List Int:=zqx (fun j=>!(hR k t j).2) t.length
theorem zmr {k:Nat} {t:List Rule} {F:List Nat} (h:Lit t F) (hk:big≤k):zdu k t=some (gone k t):=by
  have hlen:=h.len
  have key:∀ m i,i≤t.length→t.length - i<m→za6 k t m (i:Int) (zqx (fun j=>!(hR k t j).2) i) (zqx (fun j=>!(hR k t j).2) i).length=some (gone k t,(gone k t).length):=by
    intro m
    induction m with
    |zero=>intro i h1 h2;omega
    |succ m ih =>
      intro i h1 h2;rw [za6];by_cases c:i<t.length
      · have hl:=zs4 (fun j=>!(hR k t j).2) i;have hs:=zvq (fun j=>!(hR k t j).2) i;have:=ih (i+1) (by omega) (by omega);rw [hs] at this;rw [if_pos (zah c),(ye9 h c hk).1,Option.bind_some,zbq i (by omega)]
        cases hb:(hR k t i).2 with
        |true =>
          rw [hb,if_neg (by simp)] at this;rw [if_pos rfl];exact this
        |false =>
          rw [hb,if_pos (by simp),List.length_append,List.length_singleton] at this;rw [if_neg (by simp),if_pos (by omega)];exact this
      · obtain rfl:i=t.length:=by omega
        rw [if_neg (by omega)];rfl
  have:=key k 0 (Nat.zero_le _) (by simp only [big] at hk;omega);unfold zdu;change za6 k t k 0 [] 0=_ at this;rw [this,Option.bind_some,if_pos rfl]
theorem zzo {k:Nat} {t:List Rule} {F:List Nat} (h:Lit t F) (hk:big≤k):zdc k t=some (gone k t):=by
  have hlen:=h.len
  have key:∀ m i,i≤t.length→t.length - i<m→zbh k t m (i:Int) (zqx (fun j=>!(hR k t j).2) i) (zqx (fun j=>!(hR k t j).2) i).length=some (gone k t,(gone k t).length):=by
    intro m
    induction m with
    |zero=>intro i h1 h2;omega
    |succ m ih =>
      intro i h1 h2;rw [zbh];by_cases c:i<t.length
      · have hl:=zs4 (fun j=>!(hR k t j).2) i;have hs:=zvq (fun j=>!(hR k t j).2) i;have:=ih (i+1) (by omega) (by omega);rw [hs] at this;rw [if_pos (zah c),(ye9 h c hk).2.1,Option.bind_some,zbq i (by omega)]
        cases hb:(hR k t i).2 with
        |true =>
          rw [hb,if_neg (by simp)] at this;rw [if_pos rfl];exact this
        |false =>
          rw [hb,if_pos (by simp),List.length_append,List.length_singleton] at this;rw [if_neg (by simp),if_pos (by omega)];exact this
      · obtain rfl:i=t.length:=by omega
        rw [if_neg (by omega)];rfl
  have:=key k 0 (Nat.zero_le _) (by simp only [big] at hk;omega);unfold zdc;change zbh k t k 0 [] 0=_ at this;rw [this,Option.bind_some,if_pos rfl]
def woI (t:List Rule) (l:List Int) (i:Nat):List Rule:=((List.range i).filter fun j:Nat=>!decide ((j:Int)∈l)).map fun j:Nat=>t.getD j default
def wo (t:List Rule) (l:List Int):List Rule:=woI t l t.length
theorem zni {t:List Rule} {l:List Int} {i:Nat} (hi:i<t.length):woI t l (i+1)=if (i:Int)∈l then woI t l i else woI t l i++[t[i]]:=by
  unfold woI;rw [List.range_succ,List.filter_append,List.map_append];have e:t.getD i default=t[i]:=by rw [List.getD_eq_getElem?_getD,List.getElem?_eq_getElem hi];rfl
  by_cases h:(i:Int)∈l
  · rw [if_pos h];simp [List.filter,h]
  · rw [if_neg h];simp [List.filter,h,List.getElem?_eq_getElem hi]
theorem z19 (t:List Rule) (l:List Int) (i:Nat):(woI t l i).length≤i:=by
  unfold woI;rw [List.length_map];exact Nat.le_trans (List.length_filter_le _ _) (by rw [List.length_range];exact Nat.le_refl _)
theorem znm {k:Nat} (t:List Rule) (l:List Int) (ht:t.length≤1000) (hl:l.length≤1000) (hk:big≤k):zcd k t l=some (wo t l):=by
  have key:∀ m i,i≤t.length→t.length - i<m→za9 k t l m (i:Int) (woI t l i) (woI t l i).length=some (wo t l,(wo t l).length):=by
    intro m
    induction m with
    |zero=>intro i h1 h2;omega
    |succ m ih =>
      intro i h1 h2;rw [za9];by_cases c:i<t.length
      · have hn:=z19 t l i;have hs:=zni (l:=l) c;have:=ih (i+1) (by omega) (by omega);rw [hs] at this;rw [if_pos (zah c),if_pos ⟨by omega,zah c⟩,zyw l _ (by simp only [big];omega) (by simp only [big] at hk;omega),Option.bind_some,zcx c,zbq i (by omega)];by_cases hb:(i:Int)∈l
        · rw [if_pos hb] at this;rw [if_pos (decide_eq_true hb)];exact this
        · rw [if_neg hb,List.length_append,List.length_singleton] at this;rw [if_neg (by rw [decide_eq_true_eq];exact hb),if_pos (by omega)];exact this
      · obtain rfl:i=t.length:=by omega
        rw [if_neg (by omega)];rfl
  have:=key k 0 (Nat.zero_le _) (by simp only [big] at hk;omega);unfold zcd;change za9 k t l k 0 [] 0=_ at this;rw [this,Option.bind_some,if_pos rfl]
theorem yce {k:Nat} (l:List Int) (v:Int) (hl:l.length≤1000) (hk:big≤k):zbg k l v k false 0=some (decide (v∈l)):=by
  have key:∀ m i (d:Bool),i≤l.length→l.length - i<m→zbg k l v m d (i:Int)=some (d || (l.drop i).any fun x=>decide (x=v)):=by
    intro m
    induction m with
    |zero=>intro i d h1 h2;omega
    |succ m ih =>
      intro i d h1 h2;rw [zbg];by_cases c:i<l.length
      · rw [if_pos (zah c),zbq i (by omega),List.drop_eq_getElem_cons c,List.any_cons]
        cases d with
        |true=>rw [if_pos rfl,ih (i+1) true (by omega) (by omega)];simp
        |false=>rw [if_neg (by simp),if_pos ⟨by omega,zah c⟩,zcx c,ih (i+1) _ (by omega) (by omega)];simp
      · obtain rfl:i=l.length:=by omega
        rw [if_neg (by omega),List.drop_length];simp
  have:=key k 0 false (Nat.zero_le _) (by simp only [big] at hk;omega);rw [List.drop_zero,Bool.false_or] at this;change zbg k l v k false 0=_ at this;rw [this];congr 1;rw [Bool.eq_iff_iff];simp only [List.any_eq_true,decide_eq_true_eq];exact ⟨fun ⟨x,hx,e⟩=>e ▸ hx,fun h=>⟨v,h,rfl⟩⟩
theorem z2t {k:Nat} (t:List Rule) (l:List Int) (ht:t.length≤1000) (hl:l.length≤1000) (hk:big≤k):zd3 k t l=some (wo t l):=by
  have key:∀ m i,i≤t.length→t.length - i<m→zcg k t l m (i:Int) (woI t l i) (woI t l i).length=some (wo t l,(wo t l).length):=by
    intro m
    induction m with
    |zero=>intro i h1 h2;omega
    |succ m ih =>
      intro i h1 h2;rw [zcg];by_cases c:i<t.length
      · have hn:=z19 t l i;have hs:=zni (l:=l) c;have:=ih (i+1) (by omega) (by omega);rw [hs] at this;rw [if_pos (zah c),yce l _ hl hk,Option.bind_some,zcx c,zbq i (by omega)];by_cases hb:(i:Int)∈l
        · rw [if_pos hb] at this;rw [if_pos (decide_eq_true hb),Option.bind_some];exact this
        · rw [if_neg hb,List.length_append,List.length_singleton] at this;rw [if_neg (by rw [decide_eq_true_eq];exact hb),if_pos ⟨by omega,zah c⟩,if_pos (by omega),Option.bind_some];exact this
      · obtain rfl:i=t.length:=by omega
        rw [if_neg (by omega)];rfl
  have:=key k 0 (Nat.zero_le _) (by simp only [big] at hk;omega);unfold zd3;change zcg k t l k 0 [] 0=_ at this;rw [this,Option.bind_some,if_pos rfl]
theorem zyu {k:Nat} (a:List Int) (ha:a.length≤1000) (hk:big≤k):zdd k a a=some true:=by
  unfold zdd
  rw [if_neg (fun h=>h rfl),zmd (L:=zbz k a a) a false (fun _=>true) (by simp only [big];omega) (fun m j h=>by
    rw [zbz,if_pos (zah h),if_pos ⟨by omega,zah h⟩,if_pos ⟨by omega,zah h⟩,if_neg (fun q=>q rfl),if_pos rfl]) (fun m=>by rw [zbz,if_neg (by omega)]) (by simp only [big] at hk;omega),Option.bind_some]
  simp
theorem zpo {k:Nat} {a b:Ar 10} (ha:zac a=true) (hb:zac b=true) (hk:10<k):∃ c,zci k a b=some c∧Cmp a b c:=by
  have key:∀ m j,j≤10→10 - j<m→(∀ i,i<j→hw a i=hw b i)→∃ o,za5 k a.l b.l m (j:Int)=some o∧((∃ c,o=.inl c∧Cmp a b c)∨(o=.inr ()∧a=b)):=by
    intro m
    induction m with
    |zero=>intro j h1 h2;omega
    |succ m ih =>
      intro j h1 h2 h3;rw [za5,a.h,b.h];by_cases c:j<10
      · obtain ⟨a1,a2⟩:=zb3 ha c;obtain ⟨b1,b2⟩:=zb3 hb c;rw [if_pos (by omega),if_pos ⟨by omega,by omega⟩,if_neg (by omega),if_pos ⟨by omega,by omega⟩,a1,b1,zbq j (by omega)]
        have ec:zeo k (hw a j:Int) (hw b j:Int)=some (if hw a j<hw b j then -1 else if hw b j<hw a j then 1 else 0):=by
          unfold zeo zfu;simp only [Option.bind_some,ne_eq,not_true_eq_false,decide_false,Bool.false_eq_true,if_false];by_cases c1:hw a j<hw b j
          · rw [if_pos (zah c1),if_pos c1]
          · rw [if_neg (by omega),if_neg c1];by_cases c2:hw b j<hw a j
            · rw [if_pos (zah c2),if_pos c2]
            · rw [if_neg (by omega),if_neg c2]
        rw [ec,Option.bind_some];by_cases c1:hw a j<hw b j
        · rw [if_pos c1,if_pos (by decide)];exact ⟨_,rfl,.inl ⟨_,rfl,.inl ⟨rfl,zoa ha hb c h3 c1⟩⟩⟩
        · rw [if_neg c1];by_cases c2:hw b j<hw a j
          · rw [if_pos c2,if_pos (by decide)];exact ⟨_,rfl,.inl ⟨_,rfl,.inr (.inl ⟨rfl,zoa hb ha c (fun i hi=>(h3 i hi).symm) c2⟩)⟩⟩
          · rw [if_neg c2,if_neg (by decide)]
            exact ih (j+1) (by omega) (by omega) fun i hi=>by
              by_cases e:i<j
              · exact h3 i e
              · obtain rfl:i=j:=by omega
                omega
      · obtain rfl:j=10:=by omega
        rw [if_neg (by decide)];refine ⟨_,rfl,.inr ⟨rfl,zrf ha hb fun i hi=>?_⟩⟩;unfold hbit;rw [h3 (i / 16) (by omega)]
  obtain ⟨o,e,h⟩:=key k 0 (by omega) (by omega) (fun i hi=>by omega);unfold zci zd9;rw [show ((0:Nat):Int)=0 from rfl] at e;rw [e,Option.bind_some];rcases h with ⟨c,rfl,h⟩|⟨rfl,h⟩
  · exact ⟨c,rfl,h⟩
  · rw [Sum.elim_inr,a.h,b.h,if_neg (by decide)];exact ⟨0,rfl,.inr (.inr ⟨rfl,h⟩)⟩
end
section
open Go Go.RowKit
theorem zob (t:List Rule) (h:Ar 10):(zlo t h=-1∧t.find? (fun r=>zam r.mat h)=none)∨∃ i:Nat,∃ hi:i<t.length,zlo t h=(i:Int)∧t.find? (fun r=>zam r.mat h)=some t[i]∧zam t[i].mat h=true∧∀ j (hj:j<t.length),j<i→zam t[j].mat h=false:=by
  unfold zlo;rcases z6g (fun r:Rule=>zam r.mat h) t with ⟨e1,e2⟩|⟨i,hi,e1,e2⟩
  · exact .inl ⟨e2,e1⟩
  · refine .inr ⟨i,hi,e1,e2,?_⟩;unfold idxB at e1
    cases hf:t.findIdx? (fun r:Rule=>zam r.mat h) with
    |none=>rw [hf] at e1;simp only at e1;omega
    |some s =>
      rw [hf] at e1;simp only at e1;obtain rfl:s=i:=by omega
      obtain ⟨h1,h2,h3⟩:=List.findIdx?_eq_some_iff_getElem.1 hf;exact ⟨h2,fun j hj hji=>by simpa using h3 j hji⟩
theorem zm6 {t:List Rule} {i:Nat} (hi:i≤t.length) {q:Pat}:q∈bef t i↔∃ j,∃ hj:j<t.length,j<i∧t[j].mat=q:=by
  unfold bef;rw [List.mem_map];constructor
  · rintro ⟨r,hr,rfl⟩;obtain ⟨j,hj,rfl⟩:=List.getElem_of_mem hr;rw [List.length_take] at hj;exact ⟨j,by omega,by omega,by rw [List.getElem_take]⟩
  · rintro ⟨j,hj,hji,rfl⟩;exact ⟨t[j],by rw [List.mem_take_iff_getElem];exact ⟨j,by omega,rfl⟩,rfl⟩
theorem z20 {t:List Rule} {i:Nat} (hi:i<t.length) {h:Ar 10}:Out t[i].mat (bef t i) h↔zac h=true∧zam t[i].mat h=true∧∀ j (hj:j<t.length),j<i→zam t[j].mat h=false:=by
  constructor
  · rintro ⟨a,b,c⟩;exact ⟨a,b,fun j hj hji=>c _ ((zm6 (by omega)).2 ⟨j,hj,hji,rfl⟩)⟩
  · rintro ⟨a,b,c⟩;refine ⟨a,b,fun q hq=>?_⟩;obtain ⟨j,hj,hji,rfl⟩:=(zm6 (by omega)).1 hq;exact c j hj hji
theorem yi9 {t:List Rule} {g:List Int} {h:Ar 10} (hg:∀ i (hi:i<t.length),zam t[i].mat h=true→(∀ j (hj:j<t.length),j<i→zam t[j].mat h=false)→(i:Int) ∉ g):(wo t g).find? (fun r=>zam r.mat h)=t.find? fun r=>zam r.mat h:=by
  have key:∀ i,i≤t.length→(woI t g i).find? (fun r=>zam r.mat h)=(t.take i).find? fun r=>zam r.mat h:=by
    intro i
    induction i with
    |zero=>intro _;rfl
    |succ i ih =>
      intro hi;have c:i<t.length:=by omega
      have ih:=ih (by omega);rw [zni c,List.take_add_one,List.getElem?_eq_getElem c,Option.toList_some,List.find?_append,← ih];by_cases hm:(i:Int)∈g
      · rw [if_pos hm]
        cases hf:(woI t g i).find? (fun r=>zam r.mat h) with
        |some r=>rfl
        |none =>
          rw [hf] at ih;rw [Option.none_or,List.find?_singleton]
          cases hmt:zam t[i].mat h with
          |false=>rfl
          |true =>
            refine absurd hm (hg i c hmt fun j hj hji=>?_);have:=List.find?_eq_none.1 ih.symm t[j] (by rw [List.mem_take_iff_getElem];exact ⟨j,by omega,rfl⟩);simpa using this
      · rw [if_neg hm,List.find?_append]
  have:=key t.length (Nat.le_refl _);rw [List.take_length] at this;exact this
theorem yk9 {t:List Rule} {g:List Int}:∀ i,i≤t.length→∀ j (hj:j<(woI t g i).length),∃ s,∃ hs:s<t.length,s<i∧(woI t g i)[j]=t[s]∧(s:Int) ∉ g∧∀ q,q∈bef (woI t g i) j→q∈bef t s:=by
  intro i
  induction i with
  |zero=>intro _ j hj;exact absurd hj (Nat.not_lt_zero _)
  |succ i ih =>
    intro hi j hj;have c:i<t.length:=by omega
    have ih:=ih (by omega);by_cases hm:(i:Int)∈g
    · have e:woI t g (i+1)=woI t g i:=by rw [zni c,if_pos hm]
      simp only [e] at hj ⊢;obtain ⟨s,hs,h1,h2⟩:=ih j hj;exact ⟨s,hs,by omega,h2⟩
    · have e:woI t g (i+1)=woI t g i++[t[i]]:=by rw [zni c,if_neg hm]
      simp only [e] at hj ⊢;by_cases cj:j<(woI t g i).length
      · obtain ⟨s,hs,h1,h2,h3,h4⟩:=ih j cj;refine ⟨s,hs,by omega,by rw [List.getElem_append_left cj];exact h2,h3,fun q hq=>h4 q ?_⟩;unfold bef at hq ⊢;rw [List.take_append_of_le_length (by omega)] at hq;exact hq
      · rw [List.length_append,List.length_singleton] at hj;obtain rfl:j=(woI t g i).length:=by omega
        refine ⟨i,c,by omega,by rw [List.getElem_append_right (Nat.le_refl _)];simp,hm,fun q hq=>?_⟩;unfold bef at hq;rw [List.take_left] at hq;obtain ⟨r,hr,rfl⟩:=List.mem_map.1 hq;obtain ⟨j,hj,rfl⟩:=List.getElem_of_mem hr;obtain ⟨s,hs,h1,h2,_⟩:=ih j hj;rw [h2];exact (zm6 (by omega)).2 ⟨s,hs,h1,rfl⟩
theorem z8x {t:List Rule} {g:List Int} {r:Rule} (h:r∈wo t g):r∈t:=by
  obtain ⟨j,hj,rfl⟩:=List.getElem_of_mem h;obtain ⟨s,hs,_,h2,_⟩:=yk9 t.length (Nat.le_refl _) j hj;have:(wo t g)[j]=t[s]:=h2;rw [this];exact List.getElem_mem hs
theorem z5f {k:Nat} {t:List Rule} {i:Nat} (hi:i<t.length):(i:Int) ∉ gone k t↔(hR k t i).2=true:=by
  unfold gone zqx;constructor
  · intro h
    cases hb:(hR k t i).2 with
    |true=>rfl
    |false=>exact absurd (List.mem_map.2 ⟨i,List.mem_filter.2 ⟨List.mem_range.2 hi,by simp [hb]⟩,rfl⟩) h
  · intro h hm;obtain ⟨j,hj,e⟩:=List.mem_map.1 hm;obtain rfl:j=i:=by omega
    have:=(List.mem_filter.1 hj).2;simp [h] at this
theorem z3c {k:Nat} {t:List Rule} {F:List Nat} (h:Lit t F) {i:Nat} (hi:i<t.length) (hk:big≤k):(hR k t i).2=true↔∃ x,Out t[i].mat (bef t i) x:=by
  obtain ⟨_,_,R⟩:=ye9 h hi hk;rcases R with ⟨a,b⟩|⟨a,b⟩
  · exact ⟨fun _=>⟨_,b.out⟩,fun _=>a⟩
  · exact ⟨fun q=>(by rw [a] at q;cases q),fun ⟨x,hx⟩=>absurd hx (b x)⟩
theorem ybl {t:List Rule} {F:List Nat} (h:Lit t F) (g:List Int):Lit (wo t g) F :=
  ⟨Nat.le_trans (z19 t g t.length) h.len,fun r hr=>h.right r (z8x hr),h.few,fun r hr=>h.mask r (z8x hr)⟩
theorem yj9 {k:Nat} {t:List Rule} {F:List Nat} (h:Lit t F) (hk:big≤k):gone k (wo t (gone k t))=[]:=by
  have all:∀ j,j<(wo t (gone k t)).length→(hR k (wo t (gone k t)) j).2=true:=fun j hj=>by
    rw [z3c (ybl h _) hj hk];obtain ⟨s,hs,_,h2,h3,h4⟩:=yk9 t.length (Nat.le_refl _) j hj;obtain ⟨x,hx⟩:=(z3c h hs hk).1 ((z5f hs).1 h3);have e:(wo t (gone k t))[j]=t[s]:=h2;rw [e];exact ⟨x,hx.right,hx.into,fun q hq=>hx.no q (h4 q hq)⟩
  show ((List.range (wo t (gone k t)).length).filter fun j=>!(hR k (wo t (gone k t)) j).2).map (fun j:Nat=>(j:Int))=[];rw [List.map_eq_nil_iff,List.filter_eq_nil_iff];intro j hj;have:=all j (List.mem_range.1 hj);simp [this]
end
section
open Go Go.RowKit
theorem z0u {k:Nat} {t:List Rule} {F:List Nat} (h:Lit t F) (hk:big≤k) (i:Int):∃ r,zbf k t i=some r∧zcs k t i=some r∧(r.2=true→∃ s:Nat,∃ hs:s<t.length,i=(s:Int)∧zne t[s].mat (bef t s) r.1)∧(∀ s:Nat,∀ hs:s<t.length,i=(s:Int)→(∃ x,Out t[s].mat (bef t s) x)→r.2=true∧zne t[s].mat (bef t s) r.1):=by
  by_cases c:0≤i∧i<(t.length:Int)
  · obtain ⟨s,rfl⟩:=Int.eq_ofNat_of_zero_le c.1;have hs:s<t.length:=by omega
    obtain ⟨e1,e2,R⟩:=ye9 h hs hk;refine ⟨_,e1,e2,fun hb=>⟨s,hs,rfl,?_⟩,fun s' hs' e hx=>?_⟩
    · rcases R with ⟨_,b⟩|⟨a,_⟩
      · exact b
      · rw [a] at hb;cases hb
    · obtain rfl:s'=s:=by omega
      rcases R with ⟨a,b⟩|⟨a,b⟩
      · exact ⟨a,b⟩
      · obtain ⟨x,hx⟩:=hx;exact absurd hx (b x)
  · obtain ⟨e1,e2⟩:=z8q (k:=k) c;exact ⟨_,e1,e2,fun hb=>(by cases hb),fun s hs e _=>absurd ⟨by omega,by omega⟩ c⟩
theorem ybo (n:Net) (t:List Rule) (kk:Int) (l:List Int) (h:Ar 10) (hn:Held n) (ht:z21 t):∃ k,zco k n t kk l h=some true:=by
  refine ⟨big,?_⟩;generalize hk0:big=k;have hk:big≤k:=Nat.le_of_eq hk0;have hk10:10<k:=Nat.lt_of_lt_of_le (by decide) hk;unfold zco;obtain ⟨b,eb,hb⟩:=z7n hk n hn [t] (fun x hx=>by cases List.mem_singleton.1 hx;exact ht) (by simp);rw [eb,Option.bind_some]
  cases b with
  |false=>rfl
  |true =>
    obtain ⟨hR0,hall,F,hL⟩:=hb rfl;have ef:([t]:List (List Rule)).flatten=t:=by simp
    rw [ef] at hL;have hlen:=hL.len;rw [if_pos rfl];by_cases c1:20<(l.length:Int)
    · rw [if_pos c1];rfl
    · rw [if_neg c1,zkl h hk10,Option.bind_some]
      cases hh:zac h with
      |false=>rfl
      |true =>
        obtain ⟨r,e1,e2,H1,H2⟩:=z0u hL hk kk;have hp:∀ r,r∈t→zag r.mat=true:=hL.right;have htb:t.length<big:=ht.1;have hgl:(gone k t).length≤1000:=Nat.le_trans (zs4 _ _) hlen;have hLw:=ybl hL (gone k t);have hwl:=hLw.len;have okw:∀ g,z21 (wo t g):=fun g=>⟨by have:=(ybl hL g).len;simp only [big];omega,fun r hr=>ht.2 r (z8x hr)⟩;rw [Option.bind_some,if_neg (by simp),e1,Option.bind_some,e2,Option.bind_some,zmr hL hk,Option.bind_some,if_pos rfl]
        have step1:(if r.2=true then (if r.2=true then ((zdc k t).bind fun rShadowed2=>((zdd k (gone k t) rShadowed2).bind fun rSameInts=>(if rSameInts=true then ((zcd k t l).bind fun rWithout=>((zd3 k t l).bind fun rWithout2=>((zhk k rWithout rWithout2).bind fun rSame=>some (true,(!rSame))))) else some (true,true)))) else some (true,true)) else (if r.2=true then some (false,true) else ((zdc k t).bind fun rShadowed3=>((zdd k (gone k t) rShadowed3).bind fun rSameInts2=>(if rSameInts2=true then ((zcd k t l).bind fun rWithout3=>((zd3 k t l).bind fun rWithout4=>((zhk k rWithout3 rWithout4).bind fun rSame2=>some (false,(!rSame2))))) else some (false,true))))))=some (r.2,false):=by
          rw [zzo hL hk,Option.bind_some,Option.bind_some,zyu _ hgl hk,Option.bind_some,Option.bind_some,if_pos rfl,if_pos rfl,znm t l hlen (by omega) hk,Option.bind_some,Option.bind_some,z2t t l hlen (by omega) hk,Option.bind_some,Option.bind_some,yef _ _ (okw l) hk,Option.bind_some,Option.bind_some];cases r.2<;>simp
        rw [step1,Option.bind_some,if_neg (by simp)];have hlook:∀ x,zac x=true→zcr k t x=some (zlo t x):=fun x hx=>zps t x hp hx htb hk
        have step2:(if r.2=true then ((zcr k t r.1).bind fun rLookup=>some (true,(decide (rLookup≠kk)))) else some (false,false))=some (r.2,false):=by
          cases hr2:r.2 with
          |false=>rw [if_neg (by simp)]
          |true =>
            obtain ⟨s,hs,es,hl⟩:=H1 hr2;obtain ⟨o1,o2,o3⟩:=(z20 hs).1 hl.out;rw [if_pos rfl,hlook _ o1,Option.bind_some]
            have:zlo t r.1=kk:=by
              rcases zob t r.1 with ⟨x,y⟩|⟨i,hi,x,_,y,z⟩
              · have:=List.find?_eq_none.1 y _ (List.getElem_mem hs);simp [o2] at this
              · rw [x,es];rcases Nat.lt_trichotomy i s with w|w|w
                · rw [o3 i hi w] at y;cases y
                · rw [w]
                · rw [z s hs w] at o2;cases o2
            rw [decide_eq_false (fun q=>q this)]
        simp only at step2 ⊢;rw [step2,Option.bind_some,if_neg (by simp),hlook h hh,Option.bind_some]
        have step3:(if zlo t h=kk then (if 0≤kk then (if r.2=true then ((zci k r.1 h).bind fun rCompareHeads=>some (decide (0<rCompareHeads))) else some true) else some false) else some false)=some false:=by
          by_cases c2:zlo t h=kk
          · rw [if_pos c2];by_cases c3:0≤kk
            · rw [if_pos c3];rcases zob t h with ⟨x,y⟩|⟨i,hi,x,_,y,z⟩
              · omega
              · have ho:Out t[i].mat (bef t i) h:=(z20 hi).2 ⟨hh,y,z⟩;obtain ⟨q1,q2⟩:=H2 i hi (by omega) ⟨h,ho⟩;obtain ⟨c,ec,hc⟩:=zpo (k:=k) q2.out.right hh hk10;rw [if_pos q1,ec,Option.bind_some,decide_eq_false (fun w=>q2.least h ho (hc.pos.1 w))]
            · rw [if_neg c3]
          · rw [if_neg c2]
        simp only at step3 ⊢;rw [step3,Option.bind_some,if_neg (by simp),znm t (gone k t) hlen hgl hk,Option.bind_some,zps (wo t (gone k t)) h hLw.right hh (okw _).1 hk,Option.bind_some];have hfind:=yi9 (t:=t) (g:=gone k t) (h:=h) fun i hi hm hn=>(z5f hi).2 ((z3c hL hi hk).2 ⟨h,(z20 hi).2 ⟨hh,hm,hn⟩⟩)
        have step4:(if zlo t h<0 then (if zlo (wo t (gone k t)) h<0 then some false else some true) else (if zlo (wo t (gone k t)) h<0 then some true else (if (0:Int)≤zlo t h∧zlo t h<(t.length:Int) then (if (0:Int)≤zlo (wo t (gone k t)) h∧zlo (wo t (gone k t)) h<((wo t (gone k t)).length:Int) then ((zdv k (gx t (zlo t h)) (gx (wo t (gone k t)) (zlo (wo t (gone k t)) h))).bind fun rSameRule=>some (!rSameRule)) else none) else none)))=some false:=by
          rcases zob t h with ⟨x,y⟩|⟨i,hi,x,y,_,_⟩
          · rcases zob (wo t (gone k t)) h with ⟨x2,y2⟩|⟨j,hj,x2,y2,_,_⟩
            · rw [x,x2];rfl
            · rw [hfind,y] at y2;cases y2
          · rcases zob (wo t (gone k t)) h with ⟨x2,y2⟩|⟨j,hj,x2,y2,_,_⟩
            · rw [hfind,y] at y2;cases y2
            · rw [hfind,y] at y2;have er:t[i]=(wo t (gone k t))[j]:=by simpa using y2
              rw [x,x2,if_neg (by omega),if_neg (by omega),if_pos ⟨by omega,by omega⟩,if_pos ⟨by omega,by omega⟩,zcx hi,zcx hj,← er,zt3 _ _ (ht.2 _ (List.getElem_mem hi)) hk,Option.bind_some];simp
        rw [step4,Option.bind_some,if_neg (by simp),zmr hLw hk,Option.bind_some,yj9 hL hk];rfl
end
section
open Go Go.RowKit
theorem heldW {n:Net} (h:yjb n):Held n:=⟨fun x hx=>(h.1.2 x hx).1,fun x hx=>(h.2.2.2 x hx).1⟩
theorem yjy {r:Rule} (h:z34 r):zp8 r:=⟨h.2.2.2.1,fun l hl=>(h.2.2.2.2 l hl).1⟩
theorem ylx {t:List Rule} (h:t.length<big∧∀ y,y∈t→z34 y):z21 t:=⟨h.1,fun r hr=>yjy (h.2 r hr)⟩
end
section
open Go Go.RowKit
theorem law4w (n:Net) (t:List Rule) (kk:Int) (l:List Int) (h:Ar 10) (wn:yjb n) (wt:t.length<big∧∀ y,y∈t→z34 y) (_:inI kk) (_:l.length<big∧∀ y,y∈l→inI y) (_:∀ y,y∈h.l→inI y):∃ k,zco k n t kk l h=some true :=
  ybo n t kk l h (heldW wn) (ylx wt)
end
end Go.Proofs.YtjgbkegkcbcjaaaGreat
