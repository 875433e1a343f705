/- Part 8 of the proof of SignIsAccepted (several texts in one; no further condition). -/
import Derived.Test.YtcgdomhednbdpaaDoorZG
set_option linter.unusedSimpArgs false
set_option linter.unusedVariables false
set_option linter.unusedSectionVars false
namespace Go.Proofs.YtcgdomhednbdpaaDoor
open Go Go.RowKit
set_option maxRecDepth 100000
def ssign_text (k:Nat) (d:Ar 16):Option ByteArray:=some (strL d.l)
set_option maxHeartbeats 8000000 in
theorem ssign_text_ok (ax:Axs) (hx:Pl ax) (k:Nat) (d:Ar 16) (v:ByteArray) (H:ssign_text k d=some v):Pure Tryd.prog (EE ax) GLs 35 [.agg (d.l.map (T.int .u8))] (.str v):=by
 rw [ssign_text] at H
 refine en [.tmp 2] 5 [0] (hx.no _ (by decide)) (fn35 ax) ?_
 intro h hh
 repeat apply TW.seq
 refine rk [1] [] hh ?_
 clear hh h
 intro h hh
 repeat apply TW.seq
 refine rk [2] [] (f3 hh (@tStr.eq_1) (f2 (isu8 ax) (@tSrc.eq_4))) ?_
 clear hh h
 intro h hh
 cases H
 exact rt hh
def ssign_digest (k:Nat) (s_:ByteArray):Option (Ar 16):=some (cpA (zA 16) s_)
set_option maxHeartbeats 8000000 in
theorem ssign_digest_ok (ax:Axs) (hx:Pl ax) (k:Nat) (s_:ByteArray) (v:Ar 16) (H:ssign_digest k s_=some v):Pure Tryd.prog (EE ax) GLs 39 [.str s_] (.agg (v.l.map (T.int .u8))):=by
 rw [ssign_digest] at H
 refine en [.cell 2 23] 7 [0] (hx.no _ (by decide)) (fn39 ax) ?_
 intro h hh
 repeat apply TW.seq
 refine rk [0,2] [] hh ?_
 clear hh h
 intro h hh
 repeat apply TW.seq
 refine rk [2] [] (f3 hh (arCopy (zA 16) s_) (f3 (min_le1 s_.size 16) (@tCopy.eq_1) (@tSrc.eq_2))) ?_
 clear hh h
 intro h hh
 repeat apply TW.seq
 refine rk [2] [] hh ?_
 clear hh h
 intro h hh
 cases H
 exact rtc hh
def swire_GetInt_L0 (k:Nat) (b:List Int):Nat→Int→Int→Int→Option ((Int×Int×Int) ⊕ (Int×Int))
 |0,_,_,_=>none
 |m+1,z,used,i=>(if i<(b.length:Int) then (if (0:Int)≤i∧i<(b.length:Int) then (((if i=9 then some (decide (1<(gx b i))) else some false):Option Bool).bind fun s_2=>(((if s_2=true then some true else (if 0<i then some (decide ((gx b i)=0)) else some false)):Option Bool).bind fun s_3=>(if s_3=true then some (.inl (0,0,6)) else (if (0:Int)≤(IntKind.i64.wrap (7*i)) then (if (gx b i)<128 then some (.inr (IntKind.u64.wrap (((BitVec.ofInt IntKind.u64.bits z ||| BitVec.ofInt IntKind.u64.bits (IntKind.u64.wrap ((IntKind.u64.wrap (IntKind.u8.wrap (((BitVec.ofInt IntKind.u8.bits (gx b i) &&& BitVec.ofInt IntKind.u8.bits 127).toNat:Int))))*2 ^ (min (IntKind.i64.wrap (7*i)).toNat IntKind.u64.bits)))).toNat:Int)),IntKind.i64.wrap (i+1))) else swire_GetInt_L0 k b m (IntKind.u64.wrap (((BitVec.ofInt IntKind.u64.bits z ||| BitVec.ofInt IntKind.u64.bits (IntKind.u64.wrap ((IntKind.u64.wrap (IntKind.u8.wrap (((BitVec.ofInt IntKind.u8.bits (gx b i) &&& BitVec.ofInt IntKind.u8.bits 127).toNat:Int))))*2 ^ (min (IntKind.i64.wrap (7*i)).toNat IntKind.u64.bits)))).toNat:Int))) used (IntKind.i64.wrap (i+1))) else none)))) else none) else some (.inr (z,used)))
def swire_GetInt (k:Nat) (b:List Int):Option (Int×Int×Int):=((swire_GetInt_L0 k b k 0 0 0:Option ((Int×Int×Int) ⊕ (Int×Int))).bind fun o=>Sum.elim (fun r=>some r) (fun s_=>(if s_.2=0 then some (0,0,5) else (if (0:Int)≤1 then some (IntKind.i64.wrap (((BitVec.ofInt IntKind.i64.bits (IntKind.i64.wrap (s_.1.fdiv (2 ^ (min (1:Int).toNat IntKind.u64.bits)))) ^^^ BitVec.ofInt IntKind.i64.bits (IntKind.i64.wrap (0 - (IntKind.i64.wrap (IntKind.u64.wrap (((BitVec.ofInt IntKind.u64.bits s_.1 &&& BitVec.ofInt IntKind.u64.bits 1).toNat:Int))))))).toNat:Int)),s_.2,0) else none))) o)
set_option maxHeartbeats 8000000 in
theorem swire_GetInt_ok (ax:Axs) (hx:Pl ax) (k:Nat) (b:List Int) (v:Int×Int×Int) (H:swire_GetInt k b=some v):Pure Tryd.prog (EE ax) GLs 37 [byts b] (tupT [.int .i64 v.1,.int .i64 v.2.1,.int .i64 v.2.2]):=by
 rw [swire_GetInt] at H
 refine enN [.tmp 2,.tmp 3,.tmp 4] 53 [0] (hx.no _ (by decide)) (fn37 ax) ?_
 intro h hh
 repeat apply TW.seq
 refine rk [0] [] hh ?_
 clear hh h
 intro h hh
 repeat apply TW.seq
 apply TW.scope
 repeat apply TW.seq
 refine rk [0,5] [] hh ?_
 clear hh h
 intro h hh
 repeat apply TW.seq
 refine rk [0,5,6] [] hh ?_
 clear hh h
 intro h hh
 repeat apply TW.seq
 refine lk ?_
 repeat apply TW.seq
 refine rk [5,6,9,10,11] [] hh ?_
 clear hh h
 intro h hh
 obtain ⟨o,H1,H⟩:=bsome H
 repeat apply TW.seq
 refine cu [5,6] 0 (fun h bs=>∃ s_:Int×Int,o=.inr s_∧(h 5=.int .u64 s_.1∧h 6=.int .i64 s_.2)∧bs=[]) ?_ ?_
 ·skip
  repeat apply TW.seq
  apply TW.block
  repeat apply TW.seq
  refine TW.loopT [5,6,9,10,11] (fun m h bs=>∃ (z:Int) (used:Int) (i:Int),swire_GetInt_L0 k b m z used i=some o∧(h 5=.int .u64 z∧h 6=.int .i64 used∧h 9=byts b∧h 10=.int .i64 (b.length:Int)∧h 11=.int .i64 i)∧bs=[]) ?_ k _ _ ?_
  rotate_left
  ·exact ⟨0,0,0,H1,kq hh,rfl⟩
  clear hh h H1
  rintro m h bs ⟨z,used,i,H1,hh,rfl⟩
  rcases m with _|m
  ·rw [swire_GetInt_L0] at H1;cases H1
  rw [swire_GetInt_L0] at H1
  repeat apply TW.seq
  refine rk [5,6,9,10,11,12] [] hh ?_
  clear hh h
  intro h hh
  rcases isp H1 with ⟨c1,H1⟩|⟨c1,H1⟩
  rotate_left
  ·skip
   repeat apply TW.seq
   refine cf (f2 hh (decide_eq_false c1)) ?_
   refine xk ?_
   cases H1
   exact ce hh ⟨_,rfl,kq hh,rfl⟩
  repeat apply TW.seq
  refine ct (f2 hh (decide_eq_true c1)) ?_
  repeat apply TW.seq
  refine sk ?_
  repeat apply TW.seq
  apply TW.block
  obtain ⟨g2,H1⟩:=isg H1
  repeat apply TW.seq
  refine rk [5,6,7,8,9,10,11] [] (f2 hh (gx_some g2)) ?_
  clear hh h
  intro h hh
  repeat apply TW.seq
  apply TW.block
  obtain ⟨s_2,H2,H1⟩:=bsome H1
  repeat apply TW.seq
  refine cu [5,6,7,8,9,10,11,24] 0 (fun h bs=>(h 5=.int .u64 z∧h 6=.int .i64 used∧h 7=.int .i64 i∧h 8=.int .u8 (gx b i)∧h 9=byts b∧h 10=.int .i64 (b.length:Int)∧h 11=.int .i64 i∧h 24=.bool s_2)∧bs=[]) ?_ ?_
  ·skip
   rcases isp H2 with ⟨c3,H2⟩|⟨c3,H2⟩
   rotate_left
   ·skip
    repeat apply TW.seq
    refine rk [5,6,7,8,9,10,11,24] [] (f2 hh (decide_eq_false c3)) ?_
    clear hh h
    intro h hh
    cases H2
    exact ce hh ⟨kq hh,rfl⟩
   repeat apply TW.seq
   refine rk [5,6,7,8,9,10,11,24] [] (f2 hh (decide_eq_true c3)) ?_
   clear hh h
   intro h hh
   cases H2
   exact ce hh ⟨kq hh,rfl⟩
  clear hh h
  rintro h bs ⟨hh,rfl⟩
  obtain ⟨s_3,H2,H1⟩:=bsome H1
  repeat apply TW.seq
  refine cu [5,6,7,8,9,10,11,24] 0 (fun h bs=>(h 5=.int .u64 z∧h 6=.int .i64 used∧h 7=.int .i64 i∧h 8=.int .u8 (gx b i)∧h 9=byts b∧h 10=.int .i64 (b.length:Int)∧h 11=.int .i64 i∧h 24=.bool s_3)∧bs=[]) ?_ ?_
  ·skip
   rcases isb H2 with ⟨c4,H2⟩|⟨c4,H2⟩
   rotate_left
   ·skip
    repeat apply TW.seq
    refine cf (f2 hh c4) ?_
    rcases isp H2 with ⟨c5,H2⟩|⟨c5,H2⟩
    rotate_left
    ·skip
     repeat apply TW.seq
     refine rk [5,6,7,8,9,10,11,24] [] (f3 hh (decide_eq_false c5) c4) ?_
     clear hh h
     intro h hh
     cases H2
     exact ce hh ⟨kq hh,rfl⟩
    repeat apply TW.seq
    refine rk [5,6,7,8,9,10,11,24] [] (f3 hh (decide_eq_true c5) c4) ?_
    clear hh h
    intro h hh
    cases H2
    exact ce hh ⟨kq hh,rfl⟩
   repeat apply TW.seq
   refine ct (f2 hh c4) ?_
   repeat apply TW.seq
   refine sk ?_
   cases H2
   exact ce hh ⟨kq (f2 hh c4),rfl⟩
  clear hh h
  rintro h bs ⟨hh,rfl⟩
  rcases isb H1 with ⟨c6,H1⟩|⟨c6,H1⟩
  rotate_left
  ·skip
   repeat apply TW.seq
   refine cf (f2 hh c6) ?_
   obtain ⟨g7,H1⟩:=isg H1
   repeat apply TW.seq
   refine rk [5,6,7,8,9,10,11] [] (f2 hh c6) ?_
   clear hh h
   intro h hh
   repeat apply TW.seq
   refine rk [5,6,7,9,10,11,38] [] (f2 hh c6) ?_
   clear hh h
   intro h hh
   rcases isp H1 with ⟨c8,H1⟩|⟨c8,H1⟩
   rotate_left
   ·skip
    repeat apply TW.seq
    refine cf (f2 hh (decide_eq_false c8)) ?_
    repeat apply TW.seq
    refine sk ?_
    repeat apply TW.seq
    refine rk [5,6,9,10,11] [] (f2 hh c6) ?_
    clear hh h
    intro h hh
    exact rd m hh ⟨(IntKind.u64.wrap (((BitVec.ofInt IntKind.u64.bits z ||| BitVec.ofInt IntKind.u64.bits (IntKind.u64.wrap ((IntKind.u64.wrap (IntKind.u8.wrap (((BitVec.ofInt IntKind.u8.bits (gx b i) &&& BitVec.ofInt IntKind.u8.bits 127).toNat:Int))))*2 ^ (min (IntKind.i64.wrap (7*i)).toNat IntKind.u64.bits)))).toNat:Int))),used,(IntKind.i64.wrap (i+1)),H1,kq hh,rfl⟩
   repeat apply TW.seq
   refine ct (f2 hh (decide_eq_true c8)) ?_
   repeat apply TW.seq
   refine rk [5,6] [] (f2 hh c6) ?_
   clear hh h
   intro h hh
   refine xk ?_
   cases H1
   exact ce hh ⟨_,rfl,kq hh,rfl⟩
  repeat apply TW.seq
  refine ct (f2 hh c6) ?_
  repeat apply TW.seq
  refine rk [2,3,4] [] (f2 hh c6) ?_
  clear hh h
  intro h hh
  cases H1
  obtain rfl:=sinl H
  exact rt hh
 clear hh h
 rintro h bs ⟨s_,rfl,hh,rfl⟩
 replace H:=sinr H
 repeat apply TW.seq
 refine rk [5,6,43] [] hh ?_
 clear hh h
 intro h hh
 rcases isp H with ⟨c9,H⟩|⟨c9,H⟩
 rotate_left
 ·skip
  repeat apply TW.seq
  refine cf (f2 hh (decide_eq_false c9)) ?_
  repeat apply TW.seq
  refine sk ?_
  obtain ⟨g10,H⟩:=isg H
  repeat apply TW.seq
  refine rk [2,3,4] [] hh ?_
  clear hh h
  intro h hh
  cases H
  exact rt hh
 repeat apply TW.seq
 refine ct (f2 hh (decide_eq_true c9)) ?_
 repeat apply TW.seq
 refine rk [2,3,4] [] hh ?_
 clear hh h
 intro h hh
 cases H
 exact rt hh
def swire_Int_L0 (k:Nat)  : Nat→Int→(List Int)→Nat→Option (Int×List Int×Nat)
 |0,_,_,_=>none
 |m+1,z,l,n2=>(if 127<z then (if (n2+1)*2≤1000000000 then (if (0:Int)≤7 then swire_Int_L0 k  m (z.fdiv (2 ^ (min (7:Int).toNat IntKind.u64.bits))) (l++[IntKind.u8.wrap (((BitVec.ofInt IntKind.u8.bits (IntKind.u8.wrap (z)) ||| BitVec.ofInt IntKind.u8.bits 128).toNat:Int))]) (n2+1) else none) else none) else some (z,l,n2))
def swire_Int (k:Nat) (n:Int):Option (List Int):=(if (0:Int)≤1 then (if (0:Int)≤63 then ((swire_Int_L0 k  k (IntKind.u64.wrap (((BitVec.ofInt IntKind.u64.bits (IntKind.u64.wrap ((IntKind.u64.wrap (n))*2 ^ (min (1:Int).toNat IntKind.u64.bits))) ^^^ BitVec.ofInt IntKind.u64.bits (IntKind.u64.wrap (n.fdiv (2 ^ (min (63:Int).toNat IntKind.i64.bits))))).toNat:Int))) [] 0:Option (Int×List Int×Nat)).bind fun s_=>(if (s_.2.2+1)*2≤1000000000 then (if (s_.2.1++[IntKind.u8.wrap (s_.1)]).length=s_.2.2+1 then some (s_.2.1++[IntKind.u8.wrap (s_.1)]) else none) else none)) else none) else none)
set_option maxHeartbeats 8000000 in
theorem swire_Int_ok (ax:Axs) (hx:Pl ax) (k:Nat) (n:Int) (v:List Int) (H:swire_Int k n=some v):Pure Tryd.prog (EE ax) GLs 26 [.int .i64 n] (byts v):=by
 rw [swire_Int] at H
 refine en [.tmp 2] 27 [0] (hx.no _ (by decide)) (fn26 ax) ?_
 intro h hh
 repeat apply TW.seq
 refine rk [0] [] hh ?_
 clear hh h
 intro h hh
 obtain ⟨g1,H⟩:=isg H
 obtain ⟨g2,H⟩:=isg H
 repeat apply TW.seq
 refine rk [3] [] hh ?_
 clear hh h
 intro h hh
 repeat apply TW.seq
 refine rk [3,4] [] hh ?_
 clear hh h
 intro h hh
 refine vk 4 1 [3,4] hh ?_
 clear hh h
 intro h hh
 obtain ⟨s_,H1,H⟩:=bsome H
 repeat apply TW.seq
 refine cu [3,4] 1 (fun h bs=>(h 3=.int .u64 s_.1∧h 4=.arr 0 1 0 s_.2.2 s_.2.2 s_.2.2)∧bs=[.cells false s_.2.2 (s_.2.1.map (T.int .u8))]) ?_ ?_
 ·skip
  repeat apply TW.seq
  apply TW.block
  repeat apply TW.seq
  refine TW.loopT [3,4] (fun m h bs=>∃ (z:Int) (l:List Int) (n2:Nat),swire_Int_L0 k  m z l n2=some s_∧(h 3=.int .u64 z∧h 4=.arr 0 1 0 n2 n2 n2)∧bs=[.cells false n2 (l.map (T.int .u8))]) ?_ k _ _ ?_
  rotate_left
  ·exact ⟨(IntKind.u64.wrap (((BitVec.ofInt IntKind.u64.bits (IntKind.u64.wrap ((IntKind.u64.wrap (n))*2 ^ (min (1:Int).toNat IntKind.u64.bits))) ^^^ BitVec.ofInt IntKind.u64.bits (IntKind.u64.wrap (n.fdiv (2 ^ (min (63:Int).toNat IntKind.i64.bits))))).toNat:Int))),[],0,H1,kq hh,rfl⟩
  clear hh h H1
  rintro m h bs ⟨z,l,n2,H1,hh,rfl⟩
  rcases m with _|m
  ·rw [swire_Int_L0] at H1;cases H1
  rw [swire_Int_L0] at H1
  repeat apply TW.seq
  refine rk [3,4,13] [] hh ?_
  clear hh h
  intro h hh
  rcases isp H1 with ⟨c3,H1⟩|⟨c3,H1⟩
  rotate_left
  ·skip
   repeat apply TW.seq
   refine cf (f2 hh (decide_eq_false c3)) ?_
   refine xk ?_
   cases H1
   exact ce hh ⟨kq hh,rfl⟩
  repeat apply TW.seq
  refine ct (f2 hh (decide_eq_true c3)) ?_
  repeat apply TW.seq
  refine sk ?_
  repeat apply TW.seq
  apply TW.block
  obtain ⟨g4,H1⟩:=isg H1
  repeat apply TW.seq
  refine rg [] [] [.cells false (n2+1) ((l++[IntKind.u8.wrap (((BitVec.ofInt IntKind.u8.bits (IntKind.u8.wrap (z)) ||| BitVec.ofInt IntKind.u8.bits 128).toNat:Int))]).map (T.int .u8))] (fun h=>h 3=.int .u64 z∧h 4=.arr 0 1 0 (n2+1) (n2+1) (n2+1)) hh trivial ?_
  clear hh h
  intro h hh
  obtain ⟨g5,H1⟩:=isg H1
  repeat apply TW.seq
  refine rk [3,4] [] hh ?_
  clear hh h
  intro h hh
  exact rd m hh ⟨(z.fdiv (2 ^ (min (7:Int).toNat IntKind.u64.bits))),(l++[IntKind.u8.wrap (((BitVec.ofInt IntKind.u8.bits (IntKind.u8.wrap (z)) ||| BitVec.ofInt IntKind.u8.bits 128).toNat:Int))]),(n2+1),H1,kq hh,rfl⟩
 clear hh h
 rintro h bs ⟨hh,rfl⟩
 obtain ⟨g6,H⟩:=isg H
 repeat apply TW.seq
 refine rg [] [] [.cells false (s_.2.2+1) ((s_.2.1++[IntKind.u8.wrap (s_.1)]).map (T.int .u8))] (fun h=>h 2=.arr 0 1 0 (s_.2.2+1) (s_.2.2+1) (s_.2.2+1)) hh trivial ?_
 clear hh h
 intro h hh
 obtain ⟨g7,H⟩:=isg H
 refine TW.freeze 2 (b:=0) (e:=1) (off:=0) (len:=(s_.2.2+1)) (cap:=(s_.2.2+1)) (M:=(s_.2.2+1)) ((s_.2.1++[IntKind.u8.wrap (s_.1)]).map (T.int .u8)) (kq hh) (by rfl) (by omega) (by omega) (by rw [List.drop_zero,Nat.mul_one,cells_map (fun _=>rfl),List.take_of_length_le (by rw [List.length_map];omega)]) (fun t ht=>by obtain ⟨x,_,rfl⟩:=List.mem_map.1 ht;first|rfl|exact eAr_len _ | (rw [List.length_map];rfl)) (by rw [List.length_map];exact g7) (by omega) ?_
 rw [st_set _ _ _ (by simp only [lzA]<;>omega)]
 simp only [scA]
 refine gk [2] hh ?_
 clear hh h
 intro h hh
 cases H
 exact rt hh
def sslices_Clone_b (k:Nat) (x0:Ar 16):Option (List Int×Nat):=(if (0+16)*2≤1000000000 then some (x0.l,16) else none)
set_option maxHeartbeats 8000000 in
theorem sslices_Clone_b_ok (ax:Axs) (hx:Pl ax) (k:Nat) (x0:Ar 16) (v:List Int×Nat) (H:sslices_Clone_b k x0=some v):Call Tryd.prog (EE ax) GLs 75 [.arr 0 1 0 16 16 16] (stL [.cells true 16 (x0.l.map (T.int .u8))]) (tupT [.arr 1 1 0 v.2 v.2 v.2]) (stL [.cells true 16 (x0.l.map (T.int .u8)),.cells false v.2 (v.1.map (T.int .u8))]):=by
 rw [sslices_Clone_b] at H
 refine enBr [.tmp 2] 8 [0] (hx.no _ (by decide)) (fn75 ax) ?_
 intro h hh
 repeat apply TW.seq
 refine rk [0] [] hh ?_
 clear hh h
 intro h hh
 repeat apply TW.seq
 refine rk [0,4] [] (f2 hh (fun P x y e o l c=>tBn_arr (ti43 ax) P (stL [.cells true 16 (x0.l.map (T.int .u8))]) 0 e o l c 16 x y (by rfl) (by decide))) ?_
 clear hh h
 intro h hh
 repeat apply TW.seq
 refine cf hh ?_
 repeat apply TW.seq
 refine sk ?_
 obtain ⟨g1,H⟩:=isg H
 repeat apply TW.seq
 refine rg [5] [] [.cells true 16 (x0.l.map (T.int .u8)),.cells false 16 (x0.l.map (T.int .u8))] (fun h=>h 2=.arr 1 1 0 16 16 16) hh trivial ?_
 clear hh h
 intro h hh
 cases H
 exact rtB hh
def swire_digest (k:Nat) (d:Ar 16):Option (List Int):=((sslices_Clone_b k d).bind fun rb=>(if rb.1.length=rb.2 then some rb.1 else none))
set_option maxHeartbeats 8000000 in
theorem swire_digest_ok (ax:Axs) (hx:Pl ax) (k:Nat) (d:Ar 16) (v:List Int) (H:swire_digest k d=some v):Pure Tryd.prog (EE ax) GLs 69 [.agg (d.l.map (T.int .u8))] (byts v):=by
 rw [swire_digest] at H
 refine en [.tmp 2] 5 [0] (hx.no _ (by decide)) (fn69 ax) ?_
 intro h hh
 repeat apply TW.seq
 refine rk [1] [] hh ?_
 clear hh h
 intro h hh
 obtain ⟨rb,e1,H⟩:=bsome H
 repeat apply TW.seq
 refine rkc [2] [] [(.arr 1 1 0 rb.2 rb.2 rb.2,stL [.cells true 16 (d.l.map (T.int .u8)),.cells false rb.2 (rb.1.map (T.int .u8))])] hh ?_ ?_
 ·exact ⟨car [0,1] (sslices_Clone_b_ok ax hx k d rb e1),trivial⟩
 clear hh h
 intro h hh
 obtain ⟨g2,H⟩:=isg H
 refine TW.freeze 2 (b:=1) (e:=1) (off:=0) (len:=rb.2) (cap:=rb.2) (M:=rb.2) (rb.1.map (T.int .u8)) (kq hh) (by rfl) (by omega) (by omega) (by rw [List.drop_zero,Nat.mul_one,cells_map (fun _=>rfl),List.take_of_length_le (by rw [List.length_map];omega)]) (fun t ht=>by obtain ⟨x,_,rfl⟩:=List.mem_map.1 ht;first|rfl|exact eAr_len _ | (rw [List.length_map];rfl)) (by rw [List.length_map];exact g2) (by omega) ?_
 rw [st_set _ _ _ (by simp only [lzA]<;>omega)]
 simp only [scA]
 refine gk [2] hh ?_
 clear hh h
 intro h hh
 cases H
 exact rt hh
def swire_Int_b_L0 (k:Nat)  : Nat→Int→(List Int)→Nat→Option (Int×List Int×Nat)
 |0,_,_,_=>none
 |m+1,z,l,n2=>(if 127<z then (if (n2+1)*2≤1000000000 then (if (0:Int)≤7 then swire_Int_b_L0 k  m (z.fdiv (2 ^ (min (7:Int).toNat IntKind.u64.bits))) (l++[IntKind.u8.wrap (((BitVec.ofInt IntKind.u8.bits (IntKind.u8.wrap (z)) ||| BitVec.ofInt IntKind.u8.bits 128).toNat:Int))]) (n2+1) else none) else none) else some (z,l,n2))
def swire_Int_b (k:Nat) (n:Int):Option (List Int×Nat):=(if (0:Int)≤1 then (if (0:Int)≤63 then ((swire_Int_b_L0 k  k (IntKind.u64.wrap (((BitVec.ofInt IntKind.u64.bits (IntKind.u64.wrap ((IntKind.u64.wrap (n))*2 ^ (min (1:Int).toNat IntKind.u64.bits))) ^^^ BitVec.ofInt IntKind.u64.bits (IntKind.u64.wrap (n.fdiv (2 ^ (min (63:Int).toNat IntKind.i64.bits))))).toNat:Int))) [] 0:Option (Int×List Int×Nat)).bind fun s_=>(if (s_.2.2+1)*2≤1000000000 then some (s_.2.1++[IntKind.u8.wrap (s_.1)],s_.2.2+1) else none)) else none) else none)
set_option maxHeartbeats 8000000 in
theorem swire_Int_b_ok (ax:Axs) (hx:Pl ax) (k:Nat) (n:Int) (v:List Int×Nat) (H:swire_Int_b k n=some v):Call Tryd.prog (EE ax) GLs 26 [.int .i64 n] (stL []) (tupT [.arr 0 1 0 v.2 v.2 v.2]) (stL [.cells false v.2 (v.1.map (T.int .u8))]):=by
 rw [swire_Int_b] at H
 refine enBr [.tmp 2] 27 [0] (hx.no _ (by decide)) (fn26 ax) ?_
 intro h hh
 repeat apply TW.seq
 refine rk [0] [] hh ?_
 clear hh h
 intro h hh
 obtain ⟨g1,H⟩:=isg H
 obtain ⟨g2,H⟩:=isg H
 repeat apply TW.seq
 refine rk [3] [] hh ?_
 clear hh h
 intro h hh
 repeat apply TW.seq
 refine rk [3,4] [] hh ?_
 clear hh h
 intro h hh
 refine vk 4 1 [3,4] hh ?_
 clear hh h
 intro h hh
 obtain ⟨s_,H1,H⟩:=bsome H
 repeat apply TW.seq
 refine cu [3,4] 1 (fun h bs=>(h 3=.int .u64 s_.1∧h 4=.arr 0 1 0 s_.2.2 s_.2.2 s_.2.2)∧bs=[.cells false s_.2.2 (s_.2.1.map (T.int .u8))]) ?_ ?_
 ·skip
  repeat apply TW.seq
  apply TW.block
  repeat apply TW.seq
  refine TW.loopT [3,4] (fun m h bs=>∃ (z:Int) (l:List Int) (n2:Nat),swire_Int_b_L0 k  m z l n2=some s_∧(h 3=.int .u64 z∧h 4=.arr 0 1 0 n2 n2 n2)∧bs=[.cells false n2 (l.map (T.int .u8))]) ?_ k _ _ ?_
  rotate_left
  ·exact ⟨(IntKind.u64.wrap (((BitVec.ofInt IntKind.u64.bits (IntKind.u64.wrap ((IntKind.u64.wrap (n))*2 ^ (min (1:Int).toNat IntKind.u64.bits))) ^^^ BitVec.ofInt IntKind.u64.bits (IntKind.u64.wrap (n.fdiv (2 ^ (min (63:Int).toNat IntKind.i64.bits))))).toNat:Int))),[],0,H1,kq hh,rfl⟩
  clear hh h H1
  rintro m h bs ⟨z,l,n2,H1,hh,rfl⟩
  rcases m with _|m
  ·rw [swire_Int_b_L0] at H1;cases H1
  rw [swire_Int_b_L0] at H1
  repeat apply TW.seq
  refine rk [3,4,13] [] hh ?_
  clear hh h
  intro h hh
  rcases isp H1 with ⟨c3,H1⟩|⟨c3,H1⟩
  rotate_left
  ·skip
   repeat apply TW.seq
   refine cf (f2 hh (decide_eq_false c3)) ?_
   refine xk ?_
   cases H1
   exact ce hh ⟨kq hh,rfl⟩
  repeat apply TW.seq
  refine ct (f2 hh (decide_eq_true c3)) ?_
  repeat apply TW.seq
  refine sk ?_
  repeat apply TW.seq
  apply TW.block
  obtain ⟨g4,H1⟩:=isg H1
  repeat apply TW.seq
  refine rg [] [] [.cells false (n2+1) ((l++[IntKind.u8.wrap (((BitVec.ofInt IntKind.u8.bits (IntKind.u8.wrap (z)) ||| BitVec.ofInt IntKind.u8.bits 128).toNat:Int))]).map (T.int .u8))] (fun h=>h 3=.int .u64 z∧h 4=.arr 0 1 0 (n2+1) (n2+1) (n2+1)) hh trivial ?_
  clear hh h
  intro h hh
  obtain ⟨g5,H1⟩:=isg H1
  repeat apply TW.seq
  refine rk [3,4] [] hh ?_
  clear hh h
  intro h hh
  exact rd m hh ⟨(z.fdiv (2 ^ (min (7:Int).toNat IntKind.u64.bits))),(l++[IntKind.u8.wrap (((BitVec.ofInt IntKind.u8.bits (IntKind.u8.wrap (z)) ||| BitVec.ofInt IntKind.u8.bits 128).toNat:Int))]),(n2+1),H1,kq hh,rfl⟩
 clear hh h
 rintro h bs ⟨hh,rfl⟩
 obtain ⟨g6,H⟩:=isg H
 repeat apply TW.seq
 refine rg [] [] [.cells false (s_.2.2+1) ((s_.2.1++[IntKind.u8.wrap (s_.1)]).map (T.int .u8))] (fun h=>h 2=.arr 0 1 0 (s_.2.2+1) (s_.2.2+1) (s_.2.2+1)) hh trivial ?_
 clear hh h
 intro h hh
 cases H
 exact rtB hh
def swire_listI_L0 (k:Nat) (l:List Int) (one:Int→Option (List Int)):Nat→Int→(List Int)→Nat→Option (List Int×Nat)
 |0,_,_,_=>none
 |m+1,i,l2,n=>(if i<(l.length:Int) then (if (0:Int)≤i∧i<(l.length:Int) then ((one (gx l i)).bind fun r=>(if (n+r.length)*2≤1000000000 then (if r.length=0 then swire_listI_L0 k l one m (IntKind.i64.wrap (i+1)) l2 n else swire_listI_L0 k l one m (IntKind.i64.wrap (i+1)) (l2++r) (n+r.length)) else none)) else none) else some (l2,n))
def swire_listI (k:Nat) (l:List Int) (one:Int→Option (List Int)):Option (List Int):=((swire_Int_b k (l.length:Int)).bind fun rb=>((swire_listI_L0 k l one k 0 rb.1 rb.2:Option (List Int×Nat)).bind fun s_=>(if s_.1.length=s_.2 then some s_.1 else none)))
set_option maxHeartbeats 8000000 in
theorem swire_listI_ok (ax:Axs) (hx:Pl ax) (k:Nat) (l:List Int) (one:Int→Option (List Int)) (v:List Int) (H:swire_listI k l one=some v) (one_f:Nat) (one_c:List T) (one_i:T.idsL 0 one_c=true) (one_h:∀ (y0:Int) (w:List Int),one y0=some w→Pure Tryd.prog (EE ax) GLs one_f ([]++[.int .i64 y0]++one_c) (byts w)):Pure Tryd.prog (EE ax) GLs 60 [ints l,.fn one_f [] one_c] (byts v):=by
 rw [swire_listI] at H
 refine en (ha:=by simp only [ids2B,ids2C,idsA,idsB,one_i,Bool.and_self]) [.tmp 4] 24 [0,1] (hx.no _ (by decide)) (fn60 ax) ?_
 intro h hh
 repeat apply TW.seq
 refine rk [0,1] [] hh ?_
 clear hh h
 intro h hh
 obtain ⟨rb,e1,H⟩:=bsome H
 repeat apply TW.seq
 refine rkc [0,1,5] [] [(.arr 0 1 0 rb.2 rb.2 rb.2,stL [.cells false rb.2 (rb.1.map (T.int .u8))])] hh ?_ ?_
 ·exact ⟨car [0] (swire_Int_b_ok ax hx k (l.length:Int) rb e1),trivial⟩
 clear hh h
 intro h hh
 repeat apply TW.seq
 refine rk [1,5,11,12,13] [] hh ?_
 clear hh h
 intro h hh
 obtain ⟨s_,H1,H⟩:=bsome H
 repeat apply TW.seq
 refine cu [5] 1 (fun h bs=>(h 5=.arr 0 1 0 s_.2 s_.2 s_.2)∧bs=[.cells false s_.2 (s_.1.map (T.int .u8))]) ?_ ?_
 ·skip
  repeat apply TW.seq
  apply TW.block
  repeat apply TW.seq
  refine TW.loopT [1,5,11,12,13] (fun m h bs=>∃ (i:Int) (l2:List Int) (n:Nat),swire_listI_L0 k l one m i l2 n=some s_∧(h 1=.fn one_f [] one_c∧h 5=.arr 0 1 0 n n n∧h 11=ints l∧h 12=.int .i64 (l.length:Int)∧h 13=.int .i64 i)∧bs=[.cells false n (l2.map (T.int .u8))]) ?_ k _ _ ?_
  rotate_left
  ·exact ⟨0,rb.1,rb.2,H1,kq hh,rfl⟩
  clear hh h H1
  rintro m h bs ⟨i,l2,n,H1,hh,rfl⟩
  rcases m with _|m
  ·rw [swire_listI_L0] at H1;cases H1
  rw [swire_listI_L0] at H1
  repeat apply TW.seq
  refine rk [1,5,11,12,13,14] [] hh ?_
  clear hh h
  intro h hh
  rcases isp H1 with ⟨c2,H1⟩|⟨c2,H1⟩
  rotate_left
  ·skip
   repeat apply TW.seq
   refine cf (f2 hh (decide_eq_false c2)) ?_
   refine xk ?_
   cases H1
   exact ce (f2 hh ((fun m=>idsL_more (Nat.zero_le m) one_i))) ⟨kq hh,rfl⟩
  repeat apply TW.seq
  refine ct (f2 hh (decide_eq_true c2)) ?_
  repeat apply TW.seq
  refine sk ?_
  repeat apply TW.seq
  apply TW.block
  obtain ⟨g3,H1⟩:=isg H1
  repeat apply TW.seq
  refine rk [1,5,7,11,12,13] [] (f2 hh (gx_some g3)) ?_
  clear hh h
  intro h hh
  obtain ⟨r,e4,H1⟩:=bsome H1
  obtain ⟨g5,H1⟩:=isg H1
  rcases isp H1 with ⟨c6,H1⟩|⟨c6,H1⟩
  rotate_left
  ·skip
   repeat apply TW.seq
   refine rg [] [(byts r,stL [.cells false n (l2.map (T.int .u8))])] [.cells false (n+r.length) ((l2++r).map (T.int .u8))] (fun h=>h 1=.fn one_f [] one_c∧h 5=.arr 0 1 0 (n+r.length) (n+r.length) (n+r.length)∧h 11=ints l∧h 12=.int .i64 (l.length:Int)∧h 13=.int .i64 i) hh ?_ ?_
   ·exact ⟨Call0.call ((one_h (gx l i) r e4).call _),trivial⟩
   clear hh h
   intro h hh
   repeat apply TW.seq
   refine rk [1,5,11,12,13] [] hh ?_
   clear hh h
   intro h hh
   exact rd m (f2 hh ((fun m=>idsL_more (Nat.zero_le m) one_i))) ⟨(IntKind.i64.wrap (i+1)),(l2++r),(n+r.length),H1,kq hh,rfl⟩
  repeat apply TW.seq
  refine rg [] [(byts r,stL [.cells false n (l2.map (T.int .u8))])] [.cells false n (l2.map (T.int .u8))] (fun h=>h 1=.fn one_f [] one_c∧h 5=.arr 0 1 0 n n n∧h 11=ints l∧h 12=.int .i64 (l.length:Int)∧h 13=.int .i64 i) (f2 hh c6) ?_ ?_
  ·exact ⟨Call0.call ((one_h (gx l i) r e4).call _),trivial⟩
  clear hh h
  intro h hh
  repeat apply TW.seq
  refine rk [1,5,11,12,13] [] (f2 hh c6) ?_
  clear hh h
  intro h hh
  exact rd m (f2 hh ((fun m=>idsL_more (Nat.zero_le m) one_i))) ⟨(IntKind.i64.wrap (i+1)),l2,n,H1,kq hh,rfl⟩
 clear hh h
 rintro h bs ⟨hh,rfl⟩
 repeat apply TW.seq
 refine rk [4] [] hh ?_
 clear hh h
 intro h hh
 obtain ⟨g7,H⟩:=isg H
 refine TW.freeze 4 (b:=0) (e:=1) (off:=0) (len:=s_.2) (cap:=s_.2) (M:=s_.2) (s_.1.map (T.int .u8)) (kq hh) (by rfl) (by omega) (by omega) (by rw [List.drop_zero,Nat.mul_one,cells_map (fun _=>rfl),List.take_of_length_le (by rw [List.length_map];omega)]) (fun t ht=>by obtain ⟨x,_,rfl⟩:=List.mem_map.1 ht;first|rfl|exact eAr_len _ | (rw [List.length_map];rfl)) (by rw [List.length_map];exact g7) (by omega) ?_
 rw [st_set _ _ _ (by simp only [lzA]<;>omega)]
 simp only [scA]
 refine gk [4] hh ?_
 clear hh h
 intro h hh
 cases H
 exact rt hh
def swire_Ints (k:Nat) (l:List Int):Option (List Int):=((swire_listI k l (fun y=>swire_Int k y)).bind fun rlistI=>some rlistI)
set_option maxHeartbeats 8000000 in
theorem swire_Ints_ok (ax:Axs) (hx:Pl ax) (k:Nat) (l:List Int) (v:List Int) (H:swire_Ints k l=some v):Pure Tryd.prog (EE ax) GLs 48 [ints l] (byts v):=by
 rw [swire_Ints] at H
 refine en [.tmp 2] 5 [0] (hx.no _ (by decide)) (fn48 ax) ?_
 intro h hh
 repeat apply TW.seq
 refine rk [0] [] hh ?_
 clear hh h
 intro h hh
 obtain ⟨rlistI,e1,H⟩:=bsome H
 repeat apply TW.seq
 refine rkc [2] [] [(byts rlistI,stL [])] hh ?_ ?_
 ·exact ⟨Call0.call ((swire_listI_ok ax hx k l (fun y=>swire_Int k y) rlistI e1 26 [] (by simp only [ids2B,ids2C,idsA,idsB,Bool.and_self]) (fun y w hw=>by first|exact swire_Int_ok ax hx k y w hw|exact (swire_Int_ok ax hx k y w hw))).call _),trivial⟩
 clear hh h
 intro h hh
 cases H
 exact rt hh
def swire_listD_L0 (k:Nat) (l:List (Ar 16)) (one:(Ar 16)→Option (List Int)):Nat→Int→(List Int)→Nat→Option (List Int×Nat)
 |0,_,_,_=>none
 |m+1,i,l2,n=>(if i<(l.length:Int) then (if (0:Int)≤i∧i<(l.length:Int) then ((one (gx l i)).bind fun r=>(if (n+r.length)*2≤1000000000 then (if r.length=0 then swire_listD_L0 k l one m (IntKind.i64.wrap (i+1)) l2 n else swire_listD_L0 k l one m (IntKind.i64.wrap (i+1)) (l2++r) (n+r.length)) else none)) else none) else some (l2,n))
def swire_listD (k:Nat) (l:List (Ar 16)) (one:(Ar 16)→Option (List Int)):Option (List Int):=((swire_Int_b k (l.length:Int)).bind fun rb=>((swire_listD_L0 k l one k 0 rb.1 rb.2:Option (List Int×Nat)).bind fun s_=>(if s_.1.length=s_.2 then some s_.1 else none)))
set_option maxHeartbeats 8000000 in
theorem swire_listD_ok (ax:Axs) (hx:Pl ax) (k:Nat) (l:List (Ar 16)) (one:(Ar 16)→Option (List Int)) (v:List Int) (H:swire_listD k l one=some v) (one_f:Nat) (one_c:List T) (one_i:T.idsL 0 one_c=true) (one_h:∀ (y0:Ar 16) (w:List Int),one y0=some w→Pure Tryd.prog (EE ax) GLs one_f ([]++[.agg (y0.l.map (T.int .u8))]++one_c) (byts w)):Pure Tryd.prog (EE ax) GLs 68 [digs l,.fn one_f [] one_c] (byts v):=by
 rw [swire_listD] at H
 refine en (ha:=by simp only [ids2B,ids2C,idsA,idsB,one_i,Bool.and_self]) [.tmp 4] 24 [0,1] (hx.no _ (by decide)) (fn68 ax) ?_
 intro h hh
 repeat apply TW.seq
 refine rk [0,1] [] hh ?_
 clear hh h
 intro h hh
 obtain ⟨rb,e1,H⟩:=bsome H
 repeat apply TW.seq
 refine rkc [0,1,5] [] [(.arr 0 1 0 rb.2 rb.2 rb.2,stL [.cells false rb.2 (rb.1.map (T.int .u8))])] hh ?_ ?_
 ·exact ⟨car [0] (swire_Int_b_ok ax hx k (l.length:Int) rb e1),trivial⟩
 clear hh h
 intro h hh
 repeat apply TW.seq
 refine rk [1,5,11,12,13] [] hh ?_
 clear hh h
 intro h hh
 obtain ⟨s_,H1,H⟩:=bsome H
 repeat apply TW.seq
 refine cu [5] 1 (fun h bs=>(h 5=.arr 0 1 0 s_.2 s_.2 s_.2)∧bs=[.cells false s_.2 (s_.1.map (T.int .u8))]) ?_ ?_
 ·skip
  repeat apply TW.seq
  apply TW.block
  repeat apply TW.seq
  refine TW.loopT [1,5,11,12,13] (fun m h bs=>∃ (i:Int) (l2:List Int) (n:Nat),swire_listD_L0 k l one m i l2 n=some s_∧(h 1=.fn one_f [] one_c∧h 5=.arr 0 1 0 n n n∧h 11=digs l∧h 12=.int .i64 (l.length:Int)∧h 13=.int .i64 i)∧bs=[.cells false n (l2.map (T.int .u8))]) ?_ k _ _ ?_
  rotate_left
  ·exact ⟨0,rb.1,rb.2,H1,kq hh,rfl⟩
  clear hh h H1
  rintro m h bs ⟨i,l2,n,H1,hh,rfl⟩
  rcases m with _|m
  ·rw [swire_listD_L0] at H1;cases H1
  rw [swire_listD_L0] at H1
  repeat apply TW.seq
  refine rk [1,5,11,12,13,14] [] hh ?_
  clear hh h
  intro h hh
  rcases isp H1 with ⟨c2,H1⟩|⟨c2,H1⟩
  rotate_left
  ·skip
   repeat apply TW.seq
   refine cf (f2 hh (decide_eq_false c2)) ?_
   refine xk ?_
   cases H1
   exact ce (f2 hh ((fun m=>idsL_more (Nat.zero_le m) one_i))) ⟨kq hh,rfl⟩
  repeat apply TW.seq
  refine ct (f2 hh (decide_eq_true c2)) ?_
  repeat apply TW.seq
  refine sk ?_
  repeat apply TW.seq
  apply TW.block
  obtain ⟨g3,H1⟩:=isg H1
  repeat apply TW.seq
  refine rk [1,5,7,11,12,13] [] (f2 hh (gx_some g3)) ?_
  clear hh h
  intro h hh
  obtain ⟨r,e4,H1⟩:=bsome H1
  obtain ⟨g5,H1⟩:=isg H1
  rcases isp H1 with ⟨c6,H1⟩|⟨c6,H1⟩
  rotate_left
  ·skip
   repeat apply TW.seq
   refine rg [] [(byts r,stL [.cells false n (l2.map (T.int .u8)),.cells true 16 ((gx l i).l.map (T.int .u8))])] [.cells false (n+r.length) ((l2++r).map (T.int .u8)),.cells true 16 ((gx l i).l.map (T.int .u8))] (fun h=>h 1=.fn one_f [] one_c∧h 5=.arr 0 1 0 (n+r.length) (n+r.length) (n+r.length)∧h 11=digs l∧h 12=.int .i64 (l.length:Int)∧h 13=.int .i64 i) hh ?_ ?_
   ·exact ⟨Call0.call ((one_h (gx l i) r e4).call _),trivial⟩
   clear hh h
   intro h hh
   repeat apply TW.seq
   refine rk [1,5,11,12,13] [] hh ?_
   clear hh h
   intro h hh
   exact rd m (f2 hh ((fun m=>idsL_more (Nat.zero_le m) one_i))) ⟨(IntKind.i64.wrap (i+1)),(l2++r),(n+r.length),H1,kq hh,rfl⟩
  repeat apply TW.seq
  refine rg [] [(byts r,stL [.cells false n (l2.map (T.int .u8)),.cells true 16 ((gx l i).l.map (T.int .u8))])] [.cells false n (l2.map (T.int .u8)),.cells true 16 ((gx l i).l.map (T.int .u8))] (fun h=>h 1=.fn one_f [] one_c∧h 5=.arr 0 1 0 n n n∧h 11=digs l∧h 12=.int .i64 (l.length:Int)∧h 13=.int .i64 i) (f2 hh c6) ?_ ?_
  ·exact ⟨Call0.call ((one_h (gx l i) r e4).call _),trivial⟩
  clear hh h
  intro h hh
  repeat apply TW.seq
  refine rk [1,5,11,12,13] [] (f2 hh c6) ?_
  clear hh h
  intro h hh
  exact rd m (f2 hh ((fun m=>idsL_more (Nat.zero_le m) one_i))) ⟨(IntKind.i64.wrap (i+1)),l2,n,H1,kq hh,rfl⟩
 clear hh h
 rintro h bs ⟨hh,rfl⟩
 repeat apply TW.seq
 refine rk [4] [] hh ?_
 clear hh h
 intro h hh
 obtain ⟨g7,H⟩:=isg H
 refine TW.freeze 4 (b:=0) (e:=1) (off:=0) (len:=s_.2) (cap:=s_.2) (M:=s_.2) (s_.1.map (T.int .u8)) (kq hh) (by rfl) (by omega) (by omega) (by rw [List.drop_zero,Nat.mul_one,cells_map (fun _=>rfl),List.take_of_length_le (by rw [List.length_map];omega)]) (fun t ht=>by obtain ⟨x,_,rfl⟩:=List.mem_map.1 ht;first|rfl|exact eAr_len _ | (rw [List.length_map];rfl)) (by rw [List.length_map];exact g7) (by omega) ?_
 rw [st_set _ _ _ (by simp only [lzA]<;>omega)]
 simp only [scA]
 refine gk [4] hh ?_
 clear hh h
 intro h hh
 cases H
 exact rt hh
def swire_Digests (k:Nat) (l:List (Ar 16)):Option (List Int):=((swire_listD k l (fun y=>swire_digest k y)).bind fun rlistD=>some rlistD)
set_option maxHeartbeats 8000000 in
theorem swire_Digests_ok (ax:Axs) (hx:Pl ax) (k:Nat) (l:List (Ar 16)) (v:List Int) (H:swire_Digests k l=some v):Pure Tryd.prog (EE ax) GLs 58 [digs l] (byts v):=by
 rw [swire_Digests] at H
 refine en [.tmp 2] 5 [0] (hx.no _ (by decide)) (fn58 ax) ?_
 intro h hh
 repeat apply TW.seq
 refine rk [0] [] hh ?_
 clear hh h
 intro h hh
 obtain ⟨rlistD,e1,H⟩:=bsome H
 repeat apply TW.seq
 refine rkc [2] [] [(byts rlistD,stL [])] hh ?_ ?_
 ·exact ⟨Call0.call ((swire_listD_ok ax hx k l (fun y=>swire_digest k y) rlistD e1 69 [] (by simp only [ids2B,ids2C,idsA,idsB,Bool.and_self]) (fun y w hw=>by first|exact swire_digest_ok ax hx k y w hw|exact (swire_digest_ok ax hx k y w hw))).call _),trivial⟩
 clear hh h
 intro h hh
 cases H
 exact rt hh
end Go.Proofs.YtcgdomhednbdpaaDoor
namespace Go.Proofs.YtcgdomhednbdpaaDoor
open Go Go.RowKit
set_option maxRecDepth 100000
def ssign_climb_L0 (k:Nat) (i:Int) (j:Int) (to_:Int):Nat→Int→(Ar 16)→Option (Ar 16)
 |0,_,_=>none
 |m+1,k_,x=>(if k_≤to_ then ((swire_Ints k [i,j,k_]).bind fun rInts=>((ssign_text k x).bind fun rtext=>((shOf k 1 [strL rInts,rtext]).bind fun rshOf=>ssign_climb_L0 k i j to_ m (IntKind.i64.wrap (k_+1)) rshOf))) else some x)
def ssign_climb (k:Nat) (i:Int) (j:Int) (v_:Ar 16) (from_:Int) (to_:Int):Option (Ar 16):=((ssign_climb_L0 k i j to_ k (IntKind.i64.wrap (from_+1)) v_:Option (Ar 16)).bind fun s_=>some s_)
set_option maxHeartbeats 8000000 in
theorem ssign_climb_ok (ax:Axs) (hx:Pl ax) (k:Nat) (i:Int) (j:Int) (v_:Ar 16) (from_:Int) (to_:Int) (v:Ar 16) (H:ssign_climb k i j v_ from_ to_=some v):Pure Tryd.prog (EE ax) GLs 29 [.int .i64 i,.int .i64 j,.agg (v_.l.map (T.int .u8)),.int .i64 from_,.int .i64 to_] (.agg (v.l.map (T.int .u8))):=by
 rw [ssign_climb] at H
 refine en [.cell 10 23] 30 [0,1,2,3,4] (hx.no _ (by decide)) (fn29 ax) ?_
 intro h hh
 repeat apply TW.seq
 refine rk [0,1,3,4,7,10] [] hh ?_
 clear hh h
 intro h hh
 repeat apply TW.seq
 refine rk [0,1,4,7,10,11] [] hh ?_
 clear hh h
 intro h hh
 obtain ⟨s_,H1,H⟩:=bsome H
 repeat apply TW.seq
 refine cu [7,10] 2 (fun h bs=>(h 7=.ptr 0 0 16∧h 10=.ptr 1 0 16)∧bs=[.cells true 16 (s_.l.map (T.int .u8)),.cells true 16 ((zA 16).l.map (T.int .u8))]) ?_ ?_
 ·skip
  repeat apply TW.seq
  apply TW.block
  repeat apply TW.seq
  refine TW.loopT [0,1,4,7,10,11] (fun m h bs=>∃ (k_:Int) (x:Ar 16),ssign_climb_L0 k i j to_ m k_ x=some s_∧(h 0=.int .i64 i∧h 1=.int .i64 j∧h 4=.int .i64 to_∧h 7=.ptr 0 0 16∧h 10=.ptr 1 0 16∧h 11=.int .i64 k_)∧bs=[.cells true 16 (x.l.map (T.int .u8)),.cells true 16 ((zA 16).l.map (T.int .u8))]) ?_ k _ _ ?_
  rotate_left
  ·exact ⟨(IntKind.i64.wrap (from_+1)),v_,H1,kq hh,rfl⟩
  clear hh h H1
  rintro m h bs ⟨k_,x,H1,hh,rfl⟩
  rcases m with _|m
  ·rw [ssign_climb_L0] at H1;cases H1
  rw [ssign_climb_L0] at H1
  repeat apply TW.seq
  refine rk [0,1,4,7,10,11,16] [] hh ?_
  clear hh h
  intro h hh
  rcases isp H1 with ⟨c1,H1⟩|⟨c1,H1⟩
  rotate_left
  ·skip
   repeat apply TW.seq
   refine cf (f2 hh (decide_eq_false c1)) ?_
   refine xk ?_
   cases H1
   exact ce hh ⟨kq hh,rfl⟩
  repeat apply TW.seq
  refine ct (f2 hh (decide_eq_true c1)) ?_
  repeat apply TW.seq
  refine sk ?_
  repeat apply TW.seq
  apply TW.block
  obtain ⟨rInts,e2,H1⟩:=bsome H1
  obtain ⟨rtext,e3,H1⟩:=bsome H1
  obtain ⟨rshOf,e4,H1⟩:=bsome H1
  repeat apply TW.seq
  refine dk 8 [0,1,4,7,10,11] [byts rInts,.str rtext] [] [(.agg (rshOf.l.map (T.int .u8)),stL [.cells true 16 (x.l.map (T.int .u8)),.cells true 16 ((zA 16).l.map (T.int .u8))])] (f3 hh (@tStr.eq_1) (f2 (isu8 ax) (@tSrc.eq_1))) ?_ ?_ ?_
  ·exact ⟨(swire_Ints_ok ax hx k [i,j,k_] rInts e2 ).call _,(ssign_text_ok ax hx k x rtext e3 ).call _,trivial⟩
  ·exact ⟨Call0.call ((shOf_ok ax hx k 1 [strL rInts,rtext] rshOf e4 ).call _),trivial⟩
  clear hh h
  intro h hh
  repeat apply TW.seq
  refine rk [0,1,4,7,10,11] [] hh ?_
  clear hh h
  intro h hh
  exact rd m hh ⟨(IntKind.i64.wrap (k_+1)),rshOf,H1,kq hh,rfl⟩
 clear hh h
 rintro h bs ⟨hh,rfl⟩
 repeat apply TW.seq
 refine rk [10] [] hh ?_
 clear hh h
 intro h hh
 cases H
 exact rtc hh
def ssign_start (k:Nat) (seed:ByteArray) (i:Int) (j:Int):Option (Ar 16):=((swire_Ints k [i,j]).bind fun rInts=>((shMac k seed (strL rInts)).bind fun rshMac=>((ssign_digest k rshMac).bind fun rdigest=>some rdigest)))
set_option maxHeartbeats 8000000 in
theorem ssign_start_ok (ax:Axs) (hx:Pl ax) (k:Nat) (seed:ByteArray) (i:Int) (j:Int) (v:Ar 16) (H:ssign_start k seed i j=some v):Pure Tryd.prog (EE ax) GLs 30 [.str seed,.int .i64 i,.int .i64 j] (.agg (v.l.map (T.int .u8))):=by
 rw [ssign_start] at H
 refine en [.cell 6 23] 15 [0,1,2] (hx.no _ (by decide)) (fn30 ax) ?_
 intro h hh
 repeat apply TW.seq
 refine rk [0,1,2,6] [] hh ?_
 clear hh h
 intro h hh
 obtain ⟨rInts,e1,H⟩:=bsome H
 obtain ⟨rshMac,e2,H⟩:=bsome H
 obtain ⟨rdigest,e3,H⟩:=bsome H
 repeat apply TW.seq
 refine rkc [6] [] [(byts rInts,stL [.cells true 16 ((zA 16).l.map (T.int .u8))]),(.str rshMac,stL [.cells true 16 ((zA 16).l.map (T.int .u8))]),(.agg (rdigest.l.map (T.int .u8)),stL [.cells true 16 ((zA 16).l.map (T.int .u8))])] (f3 hh (@tStr.eq_1) (f2 (isu8 ax) (@tSrc.eq_1))) ?_ ?_
 ·exact ⟨Call0.call ((swire_Ints_ok ax hx k [i,j] rInts e1 ).call _),Call0.call ((shMac_ok ax hx k seed (strL rInts) rshMac e2 ).call _),Call0.call ((ssign_digest_ok ax hx k rshMac rdigest e3 ).call _),trivial⟩
 clear hh h
 intro h hh
 cases H
 exact rtc hh
def ssign_join (k:Nat) (level:Int) (n:Int) (a:Ar 16) (b:Ar 16):Option (Ar 16):=((swire_Ints k [level,n]).bind fun rInts=>((ssign_text k a).bind fun rtext=>((ssign_text k b).bind fun rtext2=>((shOf k 2 [strL rInts,rtext,rtext2]).bind fun rshOf=>some rshOf))))
set_option maxHeartbeats 8000000 in
theorem ssign_join_ok (ax:Axs) (hx:Pl ax) (k:Nat) (level:Int) (n:Int) (a:Ar 16) (b:Ar 16) (v:Ar 16) (H:ssign_join k level n a b=some v):Pure Tryd.prog (EE ax) GLs 42 [.int .i64 level,.int .i64 n,.agg (a.l.map (T.int .u8)),.agg (b.l.map (T.int .u8))] (.agg (v.l.map (T.int .u8))):=by
 rw [ssign_join] at H
 refine en [.cell 8 23] 20 [0,1,2,3] (hx.no _ (by decide)) (fn42 ax) ?_
 intro h hh
 repeat apply TW.seq
 refine rk [0,1,6,7,8] [] hh ?_
 clear hh h
 intro h hh
 obtain ⟨rInts,e1,H⟩:=bsome H
 obtain ⟨rtext,e2,H⟩:=bsome H
 obtain ⟨rtext2,e3,H⟩:=bsome H
 obtain ⟨rshOf,e4,H⟩:=bsome H
 repeat apply TW.seq
 refine dk 9 [8] [byts rInts,.str rtext,.str rtext2] [] [(.agg (rshOf.l.map (T.int .u8)),stL [.cells true 16 (a.l.map (T.int .u8)),.cells true 16 (b.l.map (T.int .u8)),.cells true 16 ((zA 16).l.map (T.int .u8))])] (f3 hh (@tStr.eq_1) (f2 (isu8 ax) (@tSrc.eq_1))) ?_ ?_ ?_
 ·exact ⟨(swire_Ints_ok ax hx k [level,n] rInts e1 ).call _,(ssign_text_ok ax hx k a rtext e2 ).call _,(ssign_text_ok ax hx k b rtext2 e3 ).call _,trivial⟩
 ·exact ⟨Call0.call ((shOf_ok ax hx k 2 [strL rInts,rtext,rtext2] rshOf e4 ).call _),trivial⟩
 clear hh h
 intro h hh
 cases H
 exact rtc hh
def ssign_leaf_L0 (k:Nat) (value:Int→Option (Ar 16)):Nat→Int→(List (Ar 16))→Nat→Option (List (Ar 16)×Nat)
 |0,_,_,_=>none
 |m+1,i,l,n=>(if i<35 then ((value i).bind fun r=>(if (n+1)*17≤1000000000 then ssign_leaf_L0 k value m (IntKind.i64.wrap (i+1)) (l++[r]) (n+1) else none)) else some (l,n))
def ssign_leaf (k:Nat) (value:Int→Option (Ar 16)):Option (Ar 16):=((ssign_leaf_L0 k value k 0 [] 0:Option (List (Ar 16)×Nat)).bind fun s_=>(if s_.1.length=s_.2 then ((swire_Digests k s_.1).bind fun rDigests=>((shOf k 1 [strL rDigests]).bind fun rshOf=>some rshOf)) else none))
set_option maxHeartbeats 8000000 in
theorem ssign_leaf_ok (ax:Axs) (hx:Pl ax) (k:Nat) (value:Int→Option (Ar 16)) (v:Ar 16) (H:ssign_leaf k value=some v) (value_f:Nat) (value_c:List T) (value_i:T.idsL 0 value_c=true) (value_h:∀ (y0:Int) (w:Ar 16),value y0=some w→Pure Tryd.prog (EE ax) GLs value_f ([]++[.int .i64 y0]++value_c) (.agg (w.l.map (T.int .u8)))):Pure Tryd.prog (EE ax) GLs 40 [.fn value_f [] value_c] (.agg (v.l.map (T.int .u8))):=by
 rw [ssign_leaf] at H
 refine en (ha:=by simp only [ids2B,ids2C,idsA,idsB,value_i,Bool.and_self]) [.cell 2 23] 20 [0] (hx.no _ (by decide)) (fn40 ax) ?_
 intro h hh
 repeat apply TW.seq
 refine rk [0,2] [] hh ?_
 clear hh h
 intro h hh
 repeat apply TW.seq
 refine rk [0,2,3] [] hh ?_
 clear hh h
 intro h hh
 refine vk 3 16 [0,2,3] hh ?_
 clear hh h
 intro h hh
 repeat apply TW.seq
 refine rk [0,2,3,5] [] hh ?_
 clear hh h
 intro h hh
 obtain ⟨s_,H1,H⟩:=bsome H
 repeat apply TW.seq
 refine cu [2,3] 2 (fun h bs=>(h 2=.ptr 0 0 16∧h 3=.arr 1 16 0 s_.2 s_.2 (s_.2*16))∧bs=[.cells true 16 ((zA 16).l.map (T.int .u8)),.cells false (s_.2*16) (vecC (eAr .u8) s_.1)]) ?_ ?_
 ·skip
  repeat apply TW.seq
  apply TW.block
  repeat apply TW.seq
  refine TW.loopT [0,2,3,5] (fun m h bs=>∃ (i:Int) (l:List (Ar 16)) (n:Nat),ssign_leaf_L0 k value m i l n=some s_∧(h 0=.fn value_f [] value_c∧h 2=.ptr 0 0 16∧h 3=.arr 1 16 0 n n (n*16)∧h 5=.int .i64 i)∧bs=[.cells true 16 ((zA 16).l.map (T.int .u8)),.cells false (n*16) (vecC (eAr .u8) l)]) ?_ k _ _ ?_
  rotate_left
  ·exact ⟨0,[],0,H1,kq hh,rfl⟩
  clear hh h H1
  rintro m h bs ⟨i,l,n,H1,hh,rfl⟩
  rcases m with _|m
  ·rw [ssign_leaf_L0] at H1;cases H1
  rw [ssign_leaf_L0] at H1
  repeat apply TW.seq
  refine rk [0,2,3,5,6] [] hh ?_
  clear hh h
  intro h hh
  rcases isp H1 with ⟨c1,H1⟩|⟨c1,H1⟩
  rotate_left
  ·skip
   repeat apply TW.seq
   refine cf (f2 hh (decide_eq_false c1)) ?_
   refine xk ?_
   cases H1
   exact ce (f2 hh ((fun m=>idsL_more (Nat.zero_le m) value_i))) ⟨kq hh,rfl⟩
  repeat apply TW.seq
  refine ct (f2 hh (decide_eq_true c1)) ?_
  repeat apply TW.seq
  refine sk ?_
  repeat apply TW.seq
  apply TW.block
  repeat apply TW.seq
  refine rk [0,2,3,4,5] [] hh ?_
  clear hh h
  intro h hh
  obtain ⟨r,e2,H1⟩:=bsome H1
  obtain ⟨g3,H1⟩:=isg H1
  repeat apply TW.seq
  refine rg [] [(.agg (r.l.map (T.int .u8)),stL [.cells true 16 ((zA 16).l.map (T.int .u8)),.cells false (n*16) (vecC (eAr .u8) l)])] [.cells true 16 ((zA 16).l.map (T.int .u8)),.cells false ((n+1)*16) (vecC (eAr .u8) (l++[r]))] (fun h=>h 0=.fn value_f [] value_c∧h 2=.ptr 0 0 16∧h 3=.arr 1 16 0 (n+1) (n+1) ((n+1)*16)∧h 5=.int .i64 i) (f2 hh (@vecC_ar1 .u8 16)) ?_ ?_
  ·exact ⟨Call0.call ((value_h i r e2).call _),trivial⟩
  clear hh h
  intro h hh
  repeat apply TW.seq
  refine rk [0,2,3,5] [] hh ?_
  clear hh h
  intro h hh
  exact rd m (f2 hh ((fun m=>idsL_more (Nat.zero_le m) value_i))) ⟨(IntKind.i64.wrap (i+1)),(l++[r]),(n+1),H1,kq hh,rfl⟩
 clear hh h
 rintro h bs ⟨hh,rfl⟩
 obtain ⟨g4,H⟩:=isg H
 repeat apply TW.seq
 refine TW.freeze 3 (b:=1) (e:=16) (off:=0) (len:=s_.2) (cap:=s_.2) (M:=(s_.2*16)) (s_.1.map (eAr .u8)) (kq hh) (by rfl) (by omega) (by omega) (by rw [List.drop_zero];exact vecC_take (e:=16) (fun x=>eAr_cel x) g4) (fun t ht=>by obtain ⟨x,_,rfl⟩:=List.mem_map.1 ht;first|rfl|exact eAr_len _ | (rw [List.length_map];rfl)) (by rw [List.length_map];exact g4) (by omega) ?_
 rw [st_set _ _ _ (by simp only [lzA]<;>omega)]
 simp only [scA]
 refine gk [2,3] hh ?_
 clear hh h
 intro h hh
 obtain ⟨rDigests,e5,H⟩:=bsome H
 obtain ⟨rshOf,e6,H⟩:=bsome H
 repeat apply TW.seq
 refine rkc [2] [] [(byts rDigests,stL [.cells true 16 ((zA 16).l.map (T.int .u8)),.gone]),(.agg (rshOf.l.map (T.int .u8)),stL [.cells true 16 ((zA 16).l.map (T.int .u8)),.gone])] (f3 hh (@tStr.eq_1) (f2 (isu8 ax) (@tSrc.eq_1))) ?_ ?_
 ·exact ⟨Call0.call ((swire_Digests_ok ax hx k s_.1 rDigests e5 ).call _),Call0.call ((shOf_ok ax hx k 1 [strL rDigests] rshOf e6 ).call _),trivial⟩
 clear hh h
 intro h hh
 cases H
 exact rtc hh
def ssign_Size (k:Nat) (height:Int) (index:Int):Option Int:=(((if index<0 then some true else ((ssign_Count k height).bind fun rCount=>some (decide (rCount≤index)))):Option Bool).bind fun s_=>(if s_=true then some 0 else ((swire_Int k index).bind fun rInt=>some (IntKind.i64.wrap ((rInt.length:Int)+(IntKind.i64.wrap (16*(IntKind.i64.wrap (35+height)))))))))
set_option maxHeartbeats 8000000 in
theorem ssign_Size_ok (ax:Axs) (hx:Pl ax) (k:Nat) (height:Int) (index:Int) (v:Int) (H:ssign_Size k height index=some v):Pure Tryd.prog (EE ax) GLs 14 [.int .i64 height,.int .i64 index] (.int .i64 v):=by
 rw [ssign_Size] at H
 refine en [.tmp 4] 20 [0,1] (hx.no _ (by decide)) (fn14 ax) ?_
 intro h hh
 repeat apply TW.seq
 refine rk [0,1] [] hh ?_
 clear hh h
 intro h hh
 obtain ⟨s_,H1,H⟩:=bsome H
 repeat apply TW.seq
 refine cu [0,1,12] 0 (fun h bs=>(h 0=.int .i64 height∧h 1=.int .i64 index∧h 12=.bool s_)∧bs=[]) ?_ ?_
 ·skip
  rcases isp H1 with ⟨c1,H1⟩|⟨c1,H1⟩
  rotate_left
  ·skip
   obtain ⟨rCount,e2,H1⟩:=bsome H1
   repeat apply TW.seq
   refine rkc [0,1,12] [] [(.int .i64 rCount,stL [])] (f2 hh (decide_eq_false c1)) ?_ ?_
   ·exact ⟨Call0.call ((ssign_Count_ok ax hx k height rCount e2 ).call _),trivial⟩
   clear hh h
   intro h hh
   cases H1
   exact ce hh ⟨kq hh,rfl⟩
  repeat apply TW.seq
  refine rk [0,1,12] [] (f2 hh (decide_eq_true c1)) ?_
  clear hh h
  intro h hh
  cases H1
  exact ce hh ⟨kq hh,rfl⟩
 clear hh h
 rintro h bs ⟨hh,rfl⟩
 rcases isb H with ⟨c3,H⟩|⟨c3,H⟩
 rotate_left
 ·skip
  repeat apply TW.seq
  refine cf (f2 hh c3) ?_
  repeat apply TW.seq
  refine sk ?_
  obtain ⟨rInt,e4,H⟩:=bsome H
  repeat apply TW.seq
  refine rkc [4] [] [(byts rInt,stL [])] (f2 hh c3) ?_ ?_
  ·exact ⟨Call0.call (Pure.clr (swire_Int_ok ax hx k index rInt e4 ) (by first|rfl|simp only [c3])),trivial⟩
  clear hh h
  intro h hh
  cases H
  exact rt hh
 repeat apply TW.seq
 refine ct (f2 hh c3) ?_
 repeat apply TW.seq
 refine rk [4] [] (f2 hh c3) ?_
 clear hh h
 intro h hh
 cases H
 exact rt hh
def ssign_Message (k:Nat) (public_:Ar 16) (index:Int) (message:ByteArray):Option (Ar 16):=((ssign_text k public_).bind fun rtext=>((swire_Int k index).bind fun rInt=>((shOf k 3 [rtext,strL rInt,message]).bind fun rshOf=>some rshOf)))
set_option maxHeartbeats 8000000 in
theorem ssign_Message_ok (ax:Axs) (hx:Pl ax) (k:Nat) (public_:Ar 16) (index:Int) (message:ByteArray) (v:Ar 16) (H:ssign_Message k public_ index message=some v):Pure Tryd.prog (EE ax) GLs 20 [.agg (public_.l.map (T.int .u8)),.int .i64 index,.str message] (.agg (v.l.map (T.int .u8))):=by
 rw [ssign_Message] at H
 refine en [.cell 6 23] 15 [0,1,2] (hx.no _ (by decide)) (fn20 ax) ?_
 intro h hh
 repeat apply TW.seq
 refine rk [1,2,3,6] [] hh ?_
 clear hh h
 intro h hh
 obtain ⟨rtext,e1,H⟩:=bsome H
 obtain ⟨rInt,e2,H⟩:=bsome H
 obtain ⟨rshOf,e3,H⟩:=bsome H
 repeat apply TW.seq
 refine rkc [6] [] [(.str rtext,stL [.cells true 16 (public_.l.map (T.int .u8)),.cells true 16 ((zA 16).l.map (T.int .u8))]),(byts rInt,stL [.cells true 16 (public_.l.map (T.int .u8)),.cells true 16 ((zA 16).l.map (T.int .u8))]),(.agg (rshOf.l.map (T.int .u8)),stL [.cells true 16 (public_.l.map (T.int .u8)),.cells true 16 ((zA 16).l.map (T.int .u8))])] (f3 hh (@tStr.eq_1) (f2 (isu8 ax) (@tSrc.eq_1))) ?_ ?_
 ·exact ⟨Call0.call ((ssign_text_ok ax hx k public_ rtext e1 ).call _),Call0.call ((swire_Int_ok ax hx k index rInt e2 ).call _),Call0.call ((shOf_ok ax hx k 3 [rtext,strL rInt,message] rshOf e3 ).call _),trivial⟩
 clear hh h
 intro h hh
 cases H
 exact rtc hh
end Go.Proofs.YtcgdomhednbdpaaDoor
namespace Go.Proofs.YtcgdomhednbdpaaDoor
open Go Go.RowKit
set_option maxRecDepth 100000
def ssign_tree_1 (k:Nat) (j:Int) (fv:Int) (fv2:ByteArray):Option (Ar 16):=((ssign_start k fv2 fv j).bind fun rstart=>((ssign_climb k fv j rstart 0 15).bind fun rclimb=>some rclimb))
set_option maxHeartbeats 8000000 in
theorem ssign_tree_1_ok (ax:Axs) (hx:Pl ax) (k:Nat) (j:Int) (fv:Int) (fv2:ByteArray) (v:Ar 16) (H:ssign_tree_1 k j fv fv2=some v):Pure Tryd.prog (EE ax) GLs 47 [.int .i64 j,.cp [.int .i64 fv],.cp [.str fv2]] (.agg (v.l.map (T.int .u8))):=by
 rw [ssign_tree_1] at H
 refine en [.cell 4 23] 12 [0,1,2] (hx.no _ (by decide)) (fn47 ax) ?_
 intro h hh
 repeat apply TW.seq
 refine rk [0,1,2,4] [] hh ?_
 clear hh h
 intro h hh
 obtain ⟨rstart,e1,H⟩:=bsome H
 obtain ⟨rclimb,e2,H⟩:=bsome H
 repeat apply TW.seq
 refine dk 6 [4] [.agg (rstart.l.map (T.int .u8))] [] [(.agg (rclimb.l.map (T.int .u8)),stL [.cells true 16 ((zA 16).l.map (T.int .u8))])] hh ?_ ?_ ?_
 ·exact ⟨(ssign_start_ok ax hx k fv2 fv j rstart e1 ).call _,trivial⟩
 ·exact ⟨Call0.call ((ssign_climb_ok ax hx k fv j rstart 0 15 rclimb e2 ).call _),trivial⟩
 clear hh h
 intro h hh
 cases H
 exact rtc hh
def ssign_tree_L0 (k:Nat) (seed:ByteArray) (rCount:Int):Nat→Int→(List (Ar 16))→Nat→Option (List (Ar 16)×Nat)
 |0,_,_,_=>none
 |m+1,i,l,n=>(if i<rCount then ((ssign_leaf k (fun y=>ssign_tree_1 k y i seed)).bind fun rleaf=>(if (n+1)*17≤1000000000 then ssign_tree_L0 k seed rCount m (IntKind.i64.wrap (i+1)) (l++[rleaf]) (n+1) else none)) else some (l,n))
def ssign_tree_L2 (k:Nat) (i2:Int) (l2:List (List (Ar 16))):Nat→Int→(List (Ar 16))→Nat→Option (List (Ar 16)×Nat)
 |0,_,_,_=>none
 |m+1,i3,l3,n3=>(if i3<(IntKind.i64.wrap (((l2.getD i2.toNat default).length:Int) / 2)) then (if (0:Int)≤(IntKind.i64.wrap (2*i3))∧(IntKind.i64.wrap (2*i3))<((l2.getD i2.toNat default).length:Int) then (if (0:Int)≤(IntKind.i64.wrap ((IntKind.i64.wrap (2*i3))+1))∧(IntKind.i64.wrap ((IntKind.i64.wrap (2*i3))+1))<((l2.getD i2.toNat default).length:Int) then ((ssign_join k (IntKind.i64.wrap (i2+1)) i3 (gx (l2.getD i2.toNat default) (IntKind.i64.wrap (2*i3))) (gx (l2.getD i2.toNat default) (IntKind.i64.wrap ((IntKind.i64.wrap (2*i3))+1)))).bind fun rjoin=>(if (n3+1)*17≤1000000000 then ssign_tree_L2 k i2 l2 m (IntKind.i64.wrap (i3+1)) (l3++[rjoin]) (n3+1) else none)) else none) else none) else some (l3,n3))
def ssign_tree_L1 (k:Nat) (height:Int):Nat→Int→(List (List (Ar 16)))→Nat→Option (List (List (Ar 16))×Nat)
 |0,_,_,_=>none
 |m+1,i2,l2,n2=>(if i2<height then (((if (0:Int)≤i2∧i2<(n2:Int) then (if i2.toNat<l2.length then (if (0:Int)≤((l2.getD i2.toNat default).length:Int)∧0<2 then ((ssign_tree_L2 k i2 l2 k 0 [] 0:Option (List (Ar 16)×Nat)).bind fun s_4=>(if s_4.1.length=s_4.2 then (if (n2+1)*25≤1000000000 then some (l2++[s_4.1]) else none) else none)) else none) else none) else none):Option (List (List (Ar 16)))).bind fun s_3=>ssign_tree_L1 k height m (IntKind.i64.wrap (i2+1)) s_3 (n2+1)) else some (l2,n2))
def ssign_tree (k:Nat) (seed:ByteArray) (height:Int):Option (List (List (Ar 16))):=((ssign_Count k height).bind fun rCount=>((ssign_tree_L0 k seed rCount k 0 [] 0:Option (List (Ar 16)×Nat)).bind fun s_=>(((if s_.1.length=s_.2 then ssign_tree_L1 k height k 0 [s_.1] 1 else none):Option (List (List (Ar 16))×Nat)).bind fun s_2=>(if s_2.1.length=s_2.2 then some s_2.1 else none))))
set_option maxHeartbeats 8000000 in
theorem ssign_tree_ok (ax:Axs) (hx:Pl ax) (k:Nat) (seed:ByteArray) (height:Int) (v:List (List (Ar 16))) (H:ssign_tree k seed height=some v):Pure Tryd.prog (EE ax) GLs 27 [.str seed,.int .i64 height] (digss v):=by
 rw [ssign_tree] at H
 refine en [.tmp 4] 70 [0,1] (hx.no _ (by decide)) (fn27 ax) ?_
 intro h hh
 repeat apply TW.seq
 refine rk [1,2] [] hh ?_
 clear hh h
 intro h hh
 refine zk 2 0 1 true [.str seed] [1,2] hh ?_
 clear hh h
 intro h hh
 repeat apply TW.seq
 refine rk [1,2,5] [] (f2 hh rep1N) ?_
 clear hh h
 intro h hh
 refine vz 1 0 16 ?_
 obtain ⟨rCount,e1,H⟩:=bsome H
 repeat apply TW.seq
 refine rkc [1,2,5,12,13] [] [(.int .i64 rCount,stL [.gone,.cells true 1 [.arr 2 16 0 0 0 0],.cells false 0 (vecC (eAr .u8) ([]:List (Ar 16)))])] hh ?_ ?_
 ·exact ⟨Call0.call ((ssign_Count_ok ax hx k height rCount e1 ).call _),trivial⟩
 clear hh h
 intro h hh
 obtain ⟨s_,H1,H⟩:=bsome H
 repeat apply TW.seq
 refine cu [1,5] 3 (fun h bs=>(h 1=.int .i64 height∧h 5=.arr 1 1 0 1 1 1)∧bs=[.gone,.cells true 1 [.arr 2 16 0 s_.2 s_.2 (s_.2*16)],.cells false (s_.2*16) (vecC (eAr .u8) s_.1)]) ?_ ?_
 ·skip
  repeat apply TW.seq
  apply TW.block
  repeat apply TW.seq
  refine TW.loopT [1,2,5,12,13] (fun m h bs=>∃ (i:Int) (l:List (Ar 16)) (n:Nat),ssign_tree_L0 k seed rCount m i l n=some s_∧(h 1=.int .i64 height∧h 2=.cp [.str seed]∧h 5=.arr 1 1 0 1 1 1∧h 12=.int .i64 rCount∧h 13=.int .i64 i)∧bs=[.gone,.cells true 1 [.arr 2 16 0 n n (n*16)],.cells false (n*16) (vecC (eAr .u8) l)]) ?_ k _ _ ?_
  rotate_left
  ·exact ⟨0,[],0,H1,kq hh,rfl⟩
  clear hh h H1
  rintro m h bs ⟨i,l,n,H1,hh,rfl⟩
  rcases m with _|m
  ·rw [ssign_tree_L0] at H1;cases H1
  rw [ssign_tree_L0] at H1
  repeat apply TW.seq
  refine rk [1,2,5,12,13,14] [] hh ?_
  clear hh h
  intro h hh
  rcases isp H1 with ⟨c2,H1⟩|⟨c2,H1⟩
  rotate_left
  ·skip
   repeat apply TW.seq
   refine cf (f2 hh (decide_eq_false c2)) ?_
   refine xk ?_
   cases H1
   exact ce hh ⟨kq hh,rfl⟩
  repeat apply TW.seq
  refine ct (f2 hh (decide_eq_true c2)) ?_
  repeat apply TW.seq
  refine sk ?_
  repeat apply TW.seq
  apply TW.block
  repeat apply TW.seq
  refine rk [1,2,5,6,12,13] [] hh ?_
  clear hh h
  intro h hh
  refine zk 6 3 1 true [.int .i64 i] [1,2,5,6,12,13] hh ?_
  clear hh h
  intro h hh
  obtain ⟨rleaf,e3,H1⟩:=bsome H1
  obtain ⟨g4,H1⟩:=isg H1
  repeat apply TW.seq
  refine dg 6 [.agg (rleaf.l.map (T.int .u8))] [] [] [.gone,.cells true 1 [.arr 2 16 0 (n+1) (n+1) ((n+1)*16)],.cells false ((n+1)*16) (vecC (eAr .u8) (l++[rleaf])),.gone] (fun h=>h 1=.int .i64 height∧h 2=.cp [.str seed]∧h 5=.arr 1 1 0 1 1 1∧h 12=.int .i64 rCount∧h 13=.int .i64 i) (f3 hh ((show (0:Int).toNat=0 from rfl)) (@vecC_ar1 .u8 16)) ?_ trivial ?_
  ·exact ⟨(ssign_leaf_ok ax hx k (fun y=>ssign_tree_1 k y i seed) rleaf e3 47 [.cp [.int .i64 i],.cp [.str seed]] (by simp only [ids2B,ids2C,idsA,idsB,Bool.and_self]) (fun y w hw=>by first|exact ssign_tree_1_ok ax hx k y i seed w hw|exact (ssign_tree_1_ok ax hx k y i seed w hw))).call _,trivial⟩
  clear hh h
  intro h hh
  repeat apply TW.seq
  refine rk [1,2,5,12,13] [] hh ?_
  clear hh h
  intro h hh
  exact rd m hh ⟨(IntKind.i64.wrap (i+1)),(l++[rleaf]),(n+1),H1,kq hh,rfl⟩
 clear hh h
 rintro h bs ⟨hh,rfl⟩
 repeat apply TW.seq
 refine rk [5,26,27] [] hh ?_
 clear hh h
 intro h hh
 obtain ⟨s_2,H1,H⟩:=bsome H
 repeat apply TW.seq
 refine cu [5] 3 (fun h bs=>(h 5=.arr 1 1 0 s_2.2 s_2.2 s_2.2)∧bs=[.gone,.cells false s_2.2 (s_2.1.map digs),.gone]) ?_ ?_
 ·skip
  repeat apply TW.seq
  apply TW.block
  obtain ⟨g5,H1⟩:=isg H1
  repeat apply TW.seq
  refine fz 1 2 0 (s_.1.map (eAr .u8)) (by rw [List.drop_zero];exact vecC_take (e:=16) (fun x=>eAr_cel x) g5) (fun t ht=>by obtain ⟨x,_,rfl⟩:=List.mem_map.1 ht;first|rfl|exact eAr_len _ | (rw [List.length_map];rfl)) (by rw [List.length_map];exact g5) ?_
  repeat apply TW.seq
  refine uz 1 ?_
  repeat apply TW.seq
  refine TW.loopT [5,26,27] (fun m h bs=>∃ (i2:Int) (l2:List (List (Ar 16))) (n2:Nat),ssign_tree_L1 k height m i2 l2 n2=some s_2∧(h 5=.arr 1 1 0 n2 n2 n2∧h 26=.int .i64 height∧h 27=.int .i64 i2)∧bs=[.gone,.cells false n2 (l2.map digs),.gone]) ?_ k _ _ ?_
  rotate_left
  ·exact ⟨0,[s_.1],1,H1,kq hh,rfl⟩
  clear hh h H1
  rintro m h bs ⟨i2,l2,n2,H1,hh,rfl⟩
  rcases m with _|m
  ·rw [ssign_tree_L1] at H1;cases H1
  rw [ssign_tree_L1] at H1
  repeat apply TW.seq
  refine rk [5,26,27,28] [] hh ?_
  clear hh h
  intro h hh
  rcases isp H1 with ⟨c6,H1⟩|⟨c6,H1⟩
  rotate_left
  ·skip
   repeat apply TW.seq
   refine cf (f2 hh (decide_eq_false c6)) ?_
   refine xk ?_
   cases H1
   exact ce hh ⟨kq hh,rfl⟩
  repeat apply TW.seq
  refine ct (f2 hh (decide_eq_true c6)) ?_
  repeat apply TW.seq
  refine sk ?_
  obtain ⟨s_3,H2,H1⟩:=bsome H1
  repeat apply TW.seq
  refine cu [5,26,27] 3 (fun h bs=>(h 5=.arr 1 1 0 (n2+1) (n2+1) (n2+1)∧h 26=.int .i64 height∧h 27=.int .i64 i2)∧bs=[.gone,.cells false (n2+1) (s_3.map digs),.gone]) ?_ ?_
  ·skip
   repeat apply TW.seq
   apply TW.block
   repeat apply TW.seq
   refine rk [5,7,26,27] [] hh ?_
   clear hh h
   intro h hh
   repeat apply TW.seq
   refine rk [5,7,8,26,27] [] hh ?_
   clear hh h
   intro h hh
   refine vk 8 16 [5,7,8,26,27] hh ?_
   clear hh h
   intro h hh
   obtain ⟨g7,H2⟩:=isg H2
   obtain ⟨g8,H2⟩:=isg H2
   obtain ⟨g9,H2⟩:=isg H2
   repeat apply TW.seq
   refine rk [5,7,8,26,27,35,36] [] (f2 hh (get_some g8)) ?_
   clear hh h
   intro h hh
   obtain ⟨s_4,H3,H2⟩:=bsome H2
   repeat apply TW.seq
   refine cu [5,8,26,27] 4 (fun h bs=>(h 5=.arr 1 1 0 n2 n2 n2∧h 8=.arr 3 16 0 s_4.2 s_4.2 (s_4.2*16)∧h 26=.int .i64 height∧h 27=.int .i64 i2)∧bs=[.gone,.cells false n2 (l2.map digs),.gone,.cells false (s_4.2*16) (vecC (eAr .u8) s_4.1)]) ?_ ?_
   ·skip
    repeat apply TW.seq
    apply TW.block
    repeat apply TW.seq
    refine TW.loopT [5,7,8,26,27,35,36] (fun m h bs=>∃ (i3:Int) (l3:List (Ar 16)) (n3:Nat),ssign_tree_L2 k i2 l2 m i3 l3 n3=some s_4∧(h 5=.arr 1 1 0 n2 n2 n2∧h 7=.int .i64 i2∧h 8=.arr 3 16 0 n3 n3 (n3*16)∧h 26=.int .i64 height∧h 27=.int .i64 i2∧h 35=.int .i64 (IntKind.i64.wrap (((l2.getD i2.toNat default).length:Int) / 2))∧h 36=.int .i64 i3)∧bs=[.gone,.cells false n2 (l2.map digs),.gone,.cells false (n3*16) (vecC (eAr .u8) l3)]) ?_ k _ _ ?_
    rotate_left
    ·exact ⟨0,[],0,H3,kq hh,rfl⟩
    clear hh h H3
    rintro m h bs ⟨i3,l3,n3,H3,hh,rfl⟩
    rcases m with _|m
    ·rw [ssign_tree_L2] at H3;cases H3
    rw [ssign_tree_L2] at H3
    repeat apply TW.seq
    refine rk [5,7,8,26,27,35,36,37] [] hh ?_
    clear hh h
    intro h hh
    rcases isp H3 with ⟨c10,H3⟩|⟨c10,H3⟩
    rotate_left
    ·skip
     repeat apply TW.seq
     refine cf (f2 hh (decide_eq_false c10)) ?_
     refine xk ?_
     cases H3
     exact ce hh ⟨kq hh,rfl⟩
    repeat apply TW.seq
    refine ct (f2 hh (decide_eq_true c10)) ?_
    repeat apply TW.seq
    refine sk ?_
    repeat apply TW.seq
    apply TW.block
    repeat apply TW.seq
    refine rk [5,7,8,9,26,27,35,36] [] hh ?_
    clear hh h
    intro h hh
    obtain ⟨g11,H3⟩:=isg H3
    obtain ⟨g12,H3⟩:=isg H3
    obtain ⟨rjoin,e13,H3⟩:=bsome H3
    obtain ⟨g14,H3⟩:=isg H3
    repeat apply TW.seq
    refine dg 21 [] [] [(.agg (rjoin.l.map (T.int .u8)),stL [.gone,.cells false n2 (l2.map digs),.gone,.cells false (n3*16) (vecC (eAr .u8) l3)])] [.gone,.cells false n2 (l2.map digs),.gone,.cells false ((n3+1)*16) (vecC (eAr .u8) (l3++[rjoin]))] (fun h=>h 5=.arr 1 1 0 n2 n2 n2∧h 7=.int .i64 i2∧h 8=.arr 3 16 0 (n3+1) (n3+1) ((n3+1)*16)∧h 26=.int .i64 height∧h 27=.int .i64 i2∧h 35=.int .i64 (IntKind.i64.wrap (((l2.getD i2.toNat default).length:Int) / 2))∧h 36=.int .i64 i3) (f3 hh (get_some g8) (f3 (gx_some g11) (gx_some g12) (@vecC_ar1 .u8 16))) trivial ?_ ?_
    ·exact ⟨Call0.call ((ssign_join_ok ax hx k (IntKind.i64.wrap (i2+1)) i3 (gx (l2.getD i2.toNat default) (IntKind.i64.wrap (2*i3))) (gx (l2.getD i2.toNat default) (IntKind.i64.wrap ((IntKind.i64.wrap (2*i3))+1))) rjoin e13 ).call _),trivial⟩
    clear hh h
    intro h hh
    repeat apply TW.seq
    refine rk [5,7,8,26,27,35,36] [] hh ?_
    clear hh h
    intro h hh
    exact rd m hh ⟨(IntKind.i64.wrap (i3+1)),(l3++[rjoin]),(n3+1),H3,kq hh,rfl⟩
   clear hh h
   rintro h bs ⟨hh,rfl⟩
   obtain ⟨g15,H2⟩:=isg H2
   repeat apply TW.seq
   refine TW.freeze 8 (b:=3) (e:=16) (off:=0) (len:=s_4.2) (cap:=s_4.2) (M:=(s_4.2*16)) (s_4.1.map (eAr .u8)) (kq hh) (by rfl) (by omega) (by omega) (by rw [List.drop_zero];exact vecC_take (e:=16) (fun x=>eAr_cel x) g15) (fun t ht=>by obtain ⟨x,_,rfl⟩:=List.mem_map.1 ht;first|rfl|exact eAr_len _ | (rw [List.length_map];rfl)) (by rw [List.length_map];exact g15) (by omega) ?_
   rw [st_set _ _ _ (by simp only [lzA]<;>omega)]
   simp only [scA]
   refine gk [5,8,26,27] hh ?_
   clear hh h
   intro h hh
   obtain ⟨g16,H2⟩:=isg H2
   repeat apply TW.seq
   refine rg [] [] [.gone,.cells false (n2+1) ((l2++[s_4.1]).map digs),.gone,.gone] (fun h=>h 5=.arr 1 1 0 (n2+1) (n2+1) (n2+1)∧h 26=.int .i64 height∧h 27=.int .i64 i2) hh trivial ?_
   clear hh h
   intro h hh
   cases H2
   exact ce hh ⟨kq hh,rfl⟩
  clear hh h
  rintro h bs ⟨hh,rfl⟩
  repeat apply TW.seq
  refine rk [5,26,27] [] hh ?_
  clear hh h
  intro h hh
  exact rd m hh ⟨(IntKind.i64.wrap (i2+1)),s_3,(n2+1),H1,kq hh,rfl⟩
 clear hh h
 rintro h bs ⟨hh,rfl⟩
 repeat apply TW.seq
 refine rk [4] [] hh ?_
 clear hh h
 intro h hh
 obtain ⟨g17,H⟩:=isg H
 refine TW.freeze 4 (b:=1) (e:=1) (off:=0) (len:=s_2.2) (cap:=s_2.2) (M:=s_2.2) (s_2.1.map digs) (kq hh) (by rfl) (by omega) (by omega) (by rw [List.drop_zero,Nat.mul_one,cells_map (fun _=>rfl),List.take_of_length_le (by rw [List.length_map];omega)]) (fun t ht=>by obtain ⟨x,_,rfl⟩:=List.mem_map.1 ht;first|rfl|exact eAr_len _ | (rw [List.length_map];rfl)) (by rw [List.length_map];exact g17) (by omega) ?_
 rw [st_set _ _ _ (by simp only [lzA]<;>omega)]
 simp only [scA]
 refine gk [4] hh ?_
 clear hh h
 intro h hh
 cases H
 exact rt hh
def ssign_Public (k:Nat) (seed:ByteArray) (height:Int):Option (Ar 16×Int):=((ssign_Count k height).bind fun rCount=>(if rCount=0 then some ((zA 16),1) else ((ssign_tree k seed height).bind fun rtree=>(if (0:Int)≤height∧height<(rtree.length:Int) then (if (0:Int)≤0∧0<((gx rtree height).length:Int) then some (gx (gx rtree height) 0,0) else none) else none))))
set_option maxHeartbeats 8000000 in
theorem ssign_Public_ok (ax:Axs) (hx:Pl ax) (k:Nat) (seed:ByteArray) (height:Int) (v:Ar 16×Int) (H:ssign_Public k seed height=some v):Pure Tryd.prog (EE ax) GLs 16 [.str seed,.int .i64 height] (tupT [.agg (v.1.l.map (T.int .u8)),.int .i64 v.2]):=by
 rw [ssign_Public] at H
 refine enN [.cell 4 23,.tmp 5] 18 [0,1] (hx.no _ (by decide)) (fn16 ax) ?_
 intro h hh
 repeat apply TW.seq
 refine rk [0,1,4] [] hh ?_
 clear hh h
 intro h hh
 obtain ⟨rCount,e1,H⟩:=bsome H
 repeat apply TW.seq
 refine rkc [0,1,4,8] [] [(.int .i64 rCount,stL [.cells true 16 ((zA 16).l.map (T.int .u8))])] hh ?_ ?_
 ·exact ⟨Call0.call ((ssign_Count_ok ax hx k height rCount e1 ).call _),trivial⟩
 clear hh h
 intro h hh
 rcases isp H with ⟨c2,H⟩|⟨c2,H⟩
 rotate_left
 ·skip
  repeat apply TW.seq
  refine cf (f2 hh (decide_eq_false c2)) ?_
  repeat apply TW.seq
  refine sk ?_
  obtain ⟨rtree,e3,H⟩:=bsome H
  obtain ⟨g4,H⟩:=isg H
  obtain ⟨g5,H⟩:=isg H
  repeat apply TW.seq
  refine rkc [4,5] [] [(digss rtree,stL [.cells true 16 ((zA 16).l.map (T.int .u8))])] (f3 hh (gx_some g4) (gx_some g5)) ?_ ?_
  ·exact ⟨Call0.call ((ssign_tree_ok ax hx k seed height rtree e3 ).call _),trivial⟩
  clear hh h
  intro h hh
  cases H
  exact rtc hh
 repeat apply TW.seq
 refine ct (f2 hh (decide_eq_true c2)) ?_
 repeat apply TW.seq
 refine rk [4,5] [] (f2 hh (bz23 ax)) ?_
 clear hh h
 intro h hh
 cases H
 exact rtc hh
end Go.Proofs.YtcgdomhednbdpaaDoor
namespace Go.Proofs.YtcgdomhednbdpaaDoor
open Go Go.RowKit
set_option maxRecDepth 100000
theorem zig64:∀ n:_root_.Fin 64,IntKind.u64.wrap (((BitVec.ofInt IntKind.u64.bits (IntKind.u64.wrap ((IntKind.u64.wrap ((n.val:Nat):Int))*2 ^ (min (1:Int).toNat IntKind.u64.bits))) ^^^ BitVec.ofInt IntKind.u64.bits (IntKind.u64.wrap (((n.val:Nat):Int).fdiv (2 ^ (min (63:Int).toNat IntKind.i64.bits))))).toNat:Int))=2*((n.val:Nat):Int):=by decide +kernel
theorem u8n {n:Nat} (h:n<64):IntKind.u8.wrap (2*(n:Int))=2*(n:Int):=inK_u8 (by omega)
theorem int_small (k:Nat) {n:Nat} (h:n<64):swire_Int (k+1) (n:Int)=some [2*(n:Int)]:=by
  unfold swire_Int
  rw [if_pos (by omega),if_pos (by omega),zig64 ⟨n,h⟩]
  simp only
  rw [swire_Int_L0,if_neg (by omega)]
  simp only [Option.bind_some]
  rw [u8n h,if_pos (by omega),if_pos (by rfl)]
  rfl
theorem intb_small (k:Nat) {n:Nat} (h:n<64):swire_Int_b (k+1) (n:Int)=some ([2*(n:Int)],1):=by
  unfold swire_Int_b
  rw [if_pos (by omega),if_pos (by omega),zig64 ⟨n,h⟩]
  simp only
  rw [swire_Int_b_L0,if_neg (by omega)]
  simp only [Option.bind_some]
  rw [u8n h,if_pos (by omega)]
  rfl
def catL (f:Nat→List Int):Nat→Nat→List Int
  |_,0=>[]
  |i,n+1=>f i++catL f (i+1) n
def mapR {α:Type} (f:Nat→α):Nat→Nat→List α
  |_,0=>[]
  |i,n+1=>f i :: mapR f (i+1) n
theorem mapR_len {α:Type} (f:Nat→α):∀ (n i:Nat),(mapR f i n).length=n
  |0,_=>rfl
  |n+1,i=>by rw [mapR,List.length_cons,mapR_len f n (i+1)]
theorem mapR_snoc {α:Type} (f:Nat→α):∀ (n i:Nat),mapR f i (n+1)=mapR f i n++[f (i+n)]
  |0,i=>rfl
  |n+1,i=>by
    show f i :: mapR f (i+1) (n+1)=_
    rw [mapR_snoc f n (i+1)]
    show _=(f i :: mapR f (i+1) n)++_
    rw [List.cons_append,show i+1+n=i+(n+1) by omega]
theorem mapR_get {α:Type} [Inhabited α] (f:Nat→α):∀ (n i j:Nat),j<n→gx (mapR f i n) (j:Int)=f (i+j)
  |n+1,i,0,h=>rfl
  |n+1,i,j+1,h=>by
    have:=mapR_get f n (i+1) j (by omega)
    rw [show i+1+j=i+(j+1) by omega] at this
    rw [← this];rfl
theorem catL_len (f:Nat→List Int) (c:Nat):∀ (n i:Nat),(∀ j,i≤j→j<i+n→(f j).length=c)→(catL f i n).length=c*n
  |0,i,h=>rfl
  |n+1,i,h=>by
    show (f i++catL f (i+1) n).length=_
    rw [List.length_append,h i (by omega) (by omega),catL_len f c n (i+1) (fun j h1 h2=>h j (by omega) (by omega)),Nat.mul_succ];omega
theorem catL_congr {f g:Nat→List Int}:∀ (n i:Nat),(∀ j,i≤j→j<i+n→f j=g j)→catL f i n=catL g i n
  |0,i,h=>rfl
  |n+1,i,h=>by
    show f i++_=g i++_
    rw [h i (by omega) (by omega),catL_congr n (i+1) fun j h1 h2=>h j (by omega) (by omega)]
theorem listI_L0 (k:Nat) (l:List Int) (one:Int→Option (List Int)) (f:Nat→List Int) (hf:∀ j:Nat,j<l.length→one (gx l (j:Int))=some (f j)∧(f j).length≤100) (hl:l.length≤1000):∀ (n i m:Nat) (a:List Int) (c:Nat),i+n=l.length→n<m→c≤1000+100*i→a.length=c→swire_listI_L0 k l one m (i:Int) a c=some (a++catL f i n,c+(catL f i n).length)
  |0,i,m+1,a,c,h1,h2,h3,h4=>by
    rw [swire_listI_L0,if_neg (by omega)]
    simp [catL]
  |n+1,i,m+1,a,c,h1,h2,h3,h4=>by
    have hi:=hf i (by omega)
    rw [swire_listI_L0,if_pos (by omega),if_pos (by omega),hi.1]
    simp only [Option.bind_some]
    rw [if_pos (by omega),wi (by omega)]
    by_cases h0:(f i).length=0
    · rw [if_pos h0]
      have e:f i=[]:=List.eq_nil_of_length_eq_zero h0
      have:=listI_L0 k l one f hf hl n (i+1) m a c (by omega) (by omega) (by omega) h4
      rw [show catL f i (n+1)=catL f (i+1) n by show f i++_=_;rw [e];rfl]
      exact this
    · rw [if_neg h0]
      have:=listI_L0 k l one f hf hl n (i+1) m (a++f i) (c+(f i).length) (by omega) (by omega) (by omega) (by rw [List.length_append,h4])
      rw [show ((i:Int)+1)=((i+1:Nat):Int) by omega,this]
      show some (a++f i++catL f (i+1) n,_)=some (a++(f i++catL f (i+1) n),c+(f i++catL f (i+1) n).length)
      rw [List.append_assoc,List.length_append,Nat.add_assoc]
theorem listD_L0 (k:Nat) (l:List Dg) (one:Dg→Option (List Int)) (f:Nat→List Int) (hf:∀ j:Nat,j<l.length→one (gx l (j:Int))=some (f j)∧(f j).length≤100) (hl:l.length≤1000):∀ (n i m:Nat) (a:List Int) (c:Nat),i+n=l.length→n<m→c≤1000+100*i→a.length=c→swire_listD_L0 k l one m (i:Int) a c=some (a++catL f i n,c+(catL f i n).length)
  |0,i,m+1,a,c,h1,h2,h3,h4=>by
    rw [swire_listD_L0,if_neg (by omega)]
    simp [catL]
  |n+1,i,m+1,a,c,h1,h2,h3,h4=>by
    have hi:=hf i (by omega)
    rw [swire_listD_L0,if_pos (by omega),if_pos (by omega),hi.1]
    simp only [Option.bind_some]
    rw [if_pos (by omega),wi (by omega)]
    by_cases h0:(f i).length=0
    · rw [if_pos h0]
      have e:f i=[]:=List.eq_nil_of_length_eq_zero h0
      have:=listD_L0 k l one f hf hl n (i+1) m a c (by omega) (by omega) (by omega) h4
      rw [show catL f i (n+1)=catL f (i+1) n by show f i++_=_;rw [e];rfl]
      exact this
    · rw [if_neg h0]
      have:=listD_L0 k l one f hf hl n (i+1) m (a++f i) (c+(f i).length) (by omega) (by omega) (by omega) (by rw [List.length_append,h4])
      rw [show ((i:Int)+1)=((i+1:Nat):Int) by omega,this]
      show some (a++f i++catL f (i+1) n,_)=some (a++(f i++catL f (i+1) n),c+(f i++catL f (i+1) n).length)
      rw [List.append_assoc,List.length_append,Nat.add_assoc]
theorem ints2 (k:Nat) {a b:Nat} (ha:a<64) (hb:b<64):swire_Ints (k+10) [(a:Int),(b:Int)]=some [4,2*(a:Int),2*(b:Int)]:=by
  unfold swire_Ints swire_listI
  rw [show (([(a:Int),(b:Int)]:List Int).length:Int)=((2:Nat):Int) from rfl,intb_small (k+9) (by omega)]
  simp only [Option.bind_some]
  have:=listI_L0 (k+10) [(a:Int),(b:Int)] (fun y=>swire_Int (k+10) y) (fun j=>[2*gx [(a:Int),(b:Int)] (j:Int)]) (fun j hj=>by
    have:j=0∨j=1:=by simp only [List.length_cons,List.length_nil] at hj;omega
    rcases this with rfl|rfl
    · exact ⟨int_small (k+9) ha,by simp⟩
    · exact ⟨int_small (k+9) hb,by simp⟩) (by simp) 2 0 (k+10) [2*((2:Nat):Int)] 1 rfl (by omega) (by omega) rfl
  rw [show ((0:Nat):Int)=0 from rfl] at this
  rw [this]
  simp only [Option.bind_some]
  rw [if_pos (by rfl)]
  rfl
theorem ints3 (k:Nat) {a b c:Nat} (ha:a<64) (hb:b<64) (hc:c<64):swire_Ints (k+10) [(a:Int),(b:Int),(c:Int)]=some [6,2*(a:Int),2*(b:Int),2*(c:Int)]:=by
  unfold swire_Ints swire_listI
  rw [show (([(a:Int),(b:Int),(c:Int)]:List Int).length:Int)=((3:Nat):Int) from rfl,intb_small (k+9) (by omega)]
  simp only [Option.bind_some]
  have:=listI_L0 (k+10) [(a:Int),(b:Int),(c:Int)] (fun y=>swire_Int (k+10) y) (fun j=>[2*gx [(a:Int),(b:Int),(c:Int)] (j:Int)]) (fun j hj=>by
    have:j=0∨j=1∨j=2:=by simp only [List.length_cons,List.length_nil] at hj;omega
    rcases this with rfl|rfl|rfl
    · exact ⟨int_small (k+9) ha,by simp⟩
    · exact ⟨int_small (k+9) hb,by simp⟩
    · exact ⟨int_small (k+9) hc,by simp⟩) (by simp) 3 0 (k+10) [2*((3:Nat):Int)] 1 rfl (by omega) (by omega) rfl
  rw [show ((0:Nat):Int)=0 from rfl] at this
  rw [this]
  simp only [Option.bind_some]
  rw [if_pos (by rfl)]
  rfl
theorem wdig_eq (k:Nat) (d:Dg):swire_digest k d=some d.l:=by
  unfold swire_digest sslices_Clone_b
  rw [if_pos (by omega)]
  simp only [Option.bind_some]
  rw [if_pos d.h]
theorem digs_eq (k:Nat) (f:Nat→Dg):swire_Digests (k+50) (mapR f 0 35)=some ([70]++catL (fun j=>(f j).l) 0 35):=by
  unfold swire_Digests swire_listD
  have hl:(mapR f 0 35).length=35:=mapR_len f 35 0
  rw [hl,intb_small (k+49) (by omega)]
  simp only [Option.bind_some]
  have:=listD_L0 (k+50) (mapR f 0 35) (fun y=>swire_digest (k+50) y) (fun j=>(f j).l) (fun j hj=>by
    rw [hl] at hj
    refine ⟨?_,by rw [(f j).h];omega⟩
    have e:=mapR_get f 35 0 j hj
    rw [Nat.zero_add] at e
    show swire_digest (k+50) (gx (mapR f 0 35) (j:Int))=_
    rw [wdig_eq,e]) (by omega) 35 0 (k+50) [2*((35:Nat):Int)] 1 (by omega) (by omega) (by omega) rfl
  rw [show ((0:Nat):Int)=0 from rfl] at this
  rw [this]
  simp only [Option.bind_some]
  rw [if_pos (by rw [List.length_append];rfl)]
  rfl
theorem strL_size (l:List Int):(strL l).size=l.length:=by
  show (l.map u8o).toArray.size=_
  rw [List.size_toArray,List.length_map]
theorem shOf2 (k:Nat) (t:Int) {a b:ByteArray} (ha:a.size≤4000) (hb:b.size≤4000):shOf k t [a,b]=some (ofD t [a,b]):=if_pos ⟨by simp,fun x hx=>by
  simp only [List.mem_cons,List.not_mem_nil,or_false] at hx
  rcases hx with rfl|rfl
  · exact ha
  · exact hb⟩
theorem shOf1 (k:Nat) (t:Int) {a:ByteArray} (ha:a.size≤4000):shOf k t [a]=some (ofD t [a]):=if_pos ⟨by simp,fun x hx=>by
  simp only [List.mem_cons,List.not_mem_nil,or_false] at hx
  rw [hx];exact ha⟩
theorem shOf3 (k:Nat) (t:Int) {a b c:ByteArray} (ha:a.size≤4000) (hb:b.size≤4000) (hc:c.size≤4000):shOf k t [a,b,c]=some (ofD t [a,b,c]):=if_pos ⟨by simp,fun x hx=>by
  simp only [List.mem_cons,List.not_mem_nil,or_false] at hx
  rcases hx with rfl|rfl|rfl
  · exact ha
  · exact hb
  · exact hc⟩
theorem dg_size (d:Dg):(strL d.l).size≤4000:=by rw [strL_size,d.h];omega
def stp (i j t:Nat) (v:Dg):Dg:=ofD 1 [strL [6,2*(i:Int),2*(j:Int),2*(t:Int)],strL v.l]
def climbF (i j:Nat):Nat→Nat→Dg→Dg
  |_,0,v=>v
  |t,n+1,v=>climbF i j (t+1) n (stp i j t v)
theorem climbF_add (i j:Nat):∀ (a t b:Nat) (v:Dg),climbF i j (t+a) b (climbF i j t a v)=climbF i j t (a+b) v
  |0,t,b,v=>by rw [Nat.zero_add];rfl
  |a+1,t,b,v=>by
    rw [show a+1+b=(a+b)+1 by omega]
    show climbF i j (t+(a+1)) b (climbF i j (t+1) a (stp i j t v))=climbF i j (t+1) (a+b) (stp i j t v)
    rw [← climbF_add i j a (t+1) b,show t+(a+1)=t+1+a by omega]
theorem climb_L0 (k:Nat) {i j:Nat} (hi:i<64) (hj:j<64) (to':Nat) (hto:to'≤15):∀ (n t m:Nat) (x:Dg),t+n=to'+1→n<m→ssign_climb_L0 (k+10) (i:Int) (j:Int) (to':Int) m (t:Int) x=some (climbF i j t n x)
  |0,t,m+1,x,h1,h2=>by
    rw [ssign_climb_L0,if_neg (by omega)];rfl
  |n+1,t,m+1,x,h1,h2=>by
    rw [ssign_climb_L0,if_pos (by omega),ints3 k hi hj (show t<64 by omega)]
    simp only [Option.bind_some]
    unfold ssign_text
    simp only [Option.bind_some]
    rw [shOf2 _ _ (by rw [strL_size];simp) (dg_size _)]
    simp only [Option.bind_some]
    rw [wi (by omega)]
    exact climb_L0 k hi hj to' hto n (t+1) m _ (by omega) (by omega)
theorem climb_eq (k:Nat) {i j:Nat} (hi:i<64) (hj:j<64) {fr to':Nat} (h:fr≤to') (hto:to'≤15) (v:Dg):ssign_climb (k+30) (i:Int) (j:Int) v (fr:Int) (to':Int)=some (climbF i j (fr+1) (to' - fr) v):=by
  unfold ssign_climb
  rw [wi (by omega)]
  have:=climb_L0 (k+20) hi hj to' hto (to' - fr) (fr+1) (k+30) v (by omega) (by omega)
  rw [show ((fr+1:Nat):Int)=(fr:Int)+1 by omega] at this
  rw [this];rfl
def startF (seed:ByteArray) (i j:Nat):Dg:=cpA (zA 16) (macS seed (strL [4,2*(i:Int),2*(j:Int)]))
theorem start_eq (k:Nat) {seed:ByteArray} (hs:seed.size≤4000) {i j:Nat} (hi:i<64) (hj:j<64):ssign_start (k+10) seed (i:Int) (j:Int)=some (startF seed i j):=by
  unfold ssign_start
  rw [ints2 k hi hj]
  simp only [Option.bind_some]
  rw [show shMac (k+10) seed (strL [4,2*(i:Int),2*(j:Int)])=some (macS seed (strL [4,2*(i:Int),2*(j:Int)])) from if_pos ⟨hs,by rw [strL_size];simp⟩]
  rfl
theorem leaf_L0 (k:Nat) (value:Int→Option Dg) (f:Nat→Dg) (hf:∀ j:Nat,j<35→value (j:Int)=some (f j)):∀ (n i m:Nat) (a:List Dg) (c:Nat),i+n=35→n<m→c≤i→ssign_leaf_L0 k value m (i:Int) a c=some (a++mapR f i n,c+n)
  |0,i,m+1,a,c,h1,h2,h3=>by
    rw [ssign_leaf_L0,if_neg (by omega)]
    simp [mapR]
  |n+1,i,m+1,a,c,h1,h2,h3=>by
    rw [ssign_leaf_L0,if_pos (by omega),hf i (by omega)]
    simp only [Option.bind_some]
    rw [if_pos (by omega),wi (by omega)]
    have:=leaf_L0 k value f hf n (i+1) m (a++[f i]) (c+1) (by omega) (by omega) (by omega)
    rw [show ((i:Int)+1)=((i+1:Nat):Int) by omega,this]
    show some (a++[f i]++mapR f (i+1) n,_)=some (a++(f i :: mapR f (i+1) n),_)
    rw [List.append_assoc,show c+1+n=c+(n+1) by omega];rfl
def leafF (f:Nat→Dg):Dg:=ofD 1 [strL ([70]++catL (fun j=>(f j).l) 0 35)]
theorem leafF_congr {f g:Nat→Dg} (h:∀ j,j<35→f j=g j):leafF f=leafF g:=by
  unfold leafF
  rw [catL_congr (g:=fun j=>(g j).l) 35 0 fun j _ h2=>by show (f j).l=(g j).l;rw [h j (by omega)]]
theorem cat35_len (f:Nat→Dg):([70]++catL (fun j=>(f j).l) 0 35).length≤4000:=by
  rw [List.length_append,catL_len _ 16 35 0 fun j _ _=>(f j).h];simp
theorem leaf_eq (k:Nat) (value:Int→Option Dg) (f:Nat→Dg) (hf:∀ j:Nat,j<35→value (j:Int)=some (f j)):ssign_leaf (k+50) value=some (leafF f):=by
  unfold ssign_leaf
  have:=leaf_L0 (k+50) value f hf 35 0 (k+50) [] 0 (by omega) (by omega) (by omega)
  rw [show ((0:Nat):Int)=0 from rfl] at this
  rw [this]
  simp only [Option.bind_some,List.nil_append]
  rw [if_pos (by rw [mapR_len]),digs_eq]
  simp only [Option.bind_some]
  rw [shOf1 _ _ (by rw [strL_size];exact cat35_len f)]
  rfl
def lfF (seed:ByteArray) (i:Nat):Dg:=leafF fun j=>climbF i j 1 15 (startF seed i j)
def joinF (level n:Nat) (a b:Dg):Dg:=ofD 2 [strL [4,2*(level:Int),2*(n:Int)],strL a.l,strL b.l]
theorem join_eq (k:Nat) {level n:Nat} (h1:level<64) (h2:n<64) (a b:Dg):ssign_join (k+10) (level:Int) (n:Int) a b=some (joinF level n a b):=by
  have e:=shOf3 (k+10) 2 (a:=strL [4,2*(level:Int),2*(n:Int)]) (b:=strL a.l) (c:=strL b.l) (by rw [strL_size];simp) (dg_size a) (dg_size b)
  have e2:=ints2 k h1 h2
  have e3:∀ x:Dg,ssign_text (k+10) x=some (strL x.l):=fun x=>rfl
  have e4:joinF level n a b=ofD 2 [strL [4,2*(level:Int),2*(n:Int)],strL a.l,strL b.l]:=rfl
  rw [e4]
  generalize ofD 2 [strL [4,2*(level:Int),2*(n:Int)],strL a.l,strL b.l]=D at *
  unfold ssign_join
  rw [e2]
  simp only [Option.bind_some,e3,e]
def valF (seed:ByteArray):Nat→Nat→Dg
  |0,n=>lfF seed n
  |l+1,n=>joinF (l+1) n (valF seed l (2*n)) (valF seed l (2*n+1))
theorem tree1_eq (k:Nat) {seed:ByteArray} (hs:seed.size≤4000) {i j:Nat} (hi:i<64) (hj:j<64):ssign_tree_1 (k+30) (j:Int) (i:Int) seed=some (climbF i j 1 15 (startF seed i j)):=by
  unfold ssign_tree_1
  rw [start_eq (k+20) hs hi hj]
  simp only [Option.bind_some]
  have:=climb_eq k hi hj (fr:=0) (to':=15) (by omega) (by omega) (startF seed i j)
  rw [show ((0:Nat):Int)=0 from rfl,show ((15:Nat):Int)=15 from rfl] at this
  rw [this]
  rfl
theorem tree_L0 (k:Nat) {seed:ByteArray} (hs:seed.size≤4000) (C:Nat) (hC:C≤64):∀ (n i m:Nat) (a:List Dg) (c:Nat),i+n=C→n<m→c≤i→ssign_tree_L0 (k+100) seed (C:Int) m (i:Int) a c=some (a++mapR (lfF seed) i n,c+n)
  |0,i,m+1,a,c,h1,h2,h3=>by
    rw [ssign_tree_L0,if_neg (by omega)]
    simp [mapR]
  |n+1,i,m+1,a,c,h1,h2,h3=>by
    have e:=leaf_eq (k+50) (fun y=>ssign_tree_1 (k+100) y (i:Int) seed) (fun j=>climbF i j 1 15 (startF seed i j)) fun j hj=>tree1_eq (k+70) hs (by omega) (by omega)
    rw [ssign_tree_L0,if_pos (by omega),e]
    simp only [Option.bind_some]
    rw [if_pos (by omega),wi (by omega)]
    have:=tree_L0 k hs C hC n (i+1) m (a++[lfF seed i]) (c+1) (by omega) (by omega) (by omega)
    rw [show ((i:Int)+1)=((i+1:Nat):Int) by omega,show leafF (fun j=>climbF i j 1 15 (startF seed i j))=lfF seed i from rfl,this]
    show some (a++[lfF seed i]++mapR _ (i+1) n,_)=some (a++(lfF seed i :: mapR _ (i+1) n),_)
    rw [List.append_assoc,show c+1+n=c+(n+1) by omega];rfl
def levF (seed:ByteArray) (h l:Nat):List Dg:=mapR (valF seed l) 0 (2 ^ (h - l))
theorem tree_L2 (k:Nat) (seed:ByteArray) (h l:Nat) (hh:h≤6) (hl:l<h) (l2:List (List Dg)) (hl2:l2.getD (l:Int).toNat default=levF seed h l):∀ (n i m:Nat) (a:List Dg) (c:Nat),i+n=2 ^ (h - (l+1))→n<m→c≤i→ssign_tree_L2 (k+100) (l:Int) l2 m (i:Int) a c=some (a++mapR (valF seed (l+1)) i n,c+n):=by
  have hp:2 ^ (h - l)=2*2 ^ (h - (l+1)):=by rw [show h - l=(h - (l+1))+1 by omega,Nat.pow_succ];omega
  have hp6:=pow_le6 (show h - (l+1)≤6 by omega)
  have hlen:(levF seed h l).length=2 ^ (h - l):=mapR_len _ _ _
  intro n
  induction n with
  |zero =>
    intro i m a c h1 h2 h3
    cases m with
    |zero=>omega
    |succ m =>
      rw [ssign_tree_L2,hl2,hlen,wi (by omega),if_neg (by omega)]
      simp [mapR]
  |succ n ih =>
    intro i m a c h1 h2 h3
    cases m with
    |zero=>omega
    |succ m =>
      rw [ssign_tree_L2,hl2,hlen,wi (show _∧((2 ^ (h - l):Nat):Int) / 2≤_ by omega),if_pos (by omega),wi (show _∧2*(i:Int)≤_ by omega),wi (show _∧2*(i:Int)+1≤_ by omega),if_pos (by omega),if_pos (by omega),wi (show _∧(l:Int)+1≤_ by omega),wi (show _∧(i:Int)+1≤_ by omega)]
      have g1:=mapR_get (valF seed l) (2 ^ (h - l)) 0 (2*i) (by omega)
      have g2:=mapR_get (valF seed l) (2 ^ (h - l)) 0 (2*i+1) (by omega)
      rw [Nat.zero_add] at g1 g2
      rw [show (2*(i:Int))=((2*i:Nat):Int) by omega,show (((2*i:Nat):Int)+1)=((2*i+1:Nat):Int) by omega]
      unfold levF
      rw [g1,g2,show ((l:Int)+1)=((l+1:Nat):Int) by omega,join_eq (k+90) (by omega) (by omega)]
      simp only [Option.bind_some]
      rw [if_pos (by omega)]
      have:=ih (i+1) m (a++[valF seed (l+1) i]) (c+1) (by omega) (by omega) (by omega)
      rw [show ((i:Int)+1)=((i+1:Nat):Int) by omega,show joinF (l+1) i (valF seed l (2*i)) (valF seed l (2*i+1))=valF seed (l+1) i from rfl,this]
      show some (a++[valF seed (l+1) i]++mapR _ (i+1) n,_)=some (a++(valF seed (l+1) i :: mapR _ (i+1) n),_)
      rw [List.append_assoc,show c+1+n=c+(n+1) by omega];rfl
theorem tree_L1 (k:Nat) (seed:ByteArray) (h:Nat) (hh:h≤6):∀ (n l m:Nat),l+n=h→n<m→ssign_tree_L1 (k+100) (h:Int) m (l:Int) (mapR (levF seed h) 0 (l+1)) (l+1)=some (mapR (levF seed h) 0 (h+1),h+1)
  |0,l,m+1,h1,h2=>by
    rw [ssign_tree_L1,if_neg (by omega)]
    have:l=h:=by omega
    rw [this]
  |n+1,l,m+1,h1,h2=>by
    have hlen:(mapR (levF seed h) 0 (l+1)).length=l+1:=mapR_len _ _ _
    have hget:(mapR (levF seed h) 0 (l+1)).getD (l:Int).toNat default=levF seed h l:=by
      have:=mapR_get (levF seed h) (l+1) 0 l (by omega)
      rw [Nat.zero_add] at this
      exact this
    have hp6:=pow_le6 (show h - (l+1)≤6 by omega)
    have e:=tree_L2 k seed h l hh (by omega) (mapR (levF seed h) 0 (l+1)) hget (2 ^ (h - (l+1))) 0 (k+100) [] 0 (by omega) (by omega) (by omega)
    rw [show ((0:Nat):Int)=0 from rfl] at e
    rw [ssign_tree_L1,if_pos (by omega),if_pos (by omega),if_pos (by rw [hlen];omega),hget,if_pos (by omega),e]
    simp only [Option.bind_some,List.nil_append]
    rw [if_pos (by rw [mapR_len];omega),if_pos (by omega)]
    simp only [Option.bind_some]
    rw [wi (by omega),show mapR (valF seed (l+1)) 0 (2 ^ (h - (l+1)))=levF seed h (l+1) from rfl]
    have s:=mapR_snoc (levF seed h) (l+1) 0
    rw [Nat.zero_add] at s
    rw [← s]
    exact tree_L1 k seed h hh n (l+1) m (by omega) (by omega)
theorem tree_eq (k:Nat) {seed:ByteArray} (hs:seed.size≤4000) {h:Nat} (hh:h≤6):ssign_tree (k+100) seed (h:Int)=some (mapR (levF seed h) 0 (h+1)):=by
  have hp:=pow_le6 hh
  unfold ssign_tree
  rw [count_eq _ h hh]
  simp only [Option.bind_some]
  have e:=tree_L0 k hs (2 ^ h) hp.2 (2 ^ h) 0 (k+100) [] 0 (by omega) (by omega) (by omega)
  rw [show ((0:Nat):Int)=0 from rfl] at e
  rw [e]
  simp only [Option.bind_some,List.nil_append]
  rw [if_pos (by rw [mapR_len];omega)]
  have e1:=tree_L1 k seed h hh h 0 (k+100) (by omega) (by omega)
  rw [show ((0:Nat):Int)=0 from rfl,show mapR (levF seed h) 0 (0+1)=[mapR (lfF seed) 0 (2 ^ h)] by
    show [levF seed h 0]=_
    unfold levF
    rw [Nat.sub_zero]
    rfl] at e1
  rw [show (1:Nat)=0+1 from rfl,e1]
  simp only [Option.bind_some]
  rw [if_pos (mapR_len _ _ _)]
theorem lev_top (seed:ByteArray) (h:Nat):gx (mapR (levF seed h) 0 (h+1)) (h:Int)=[valF seed h 0]:=by
  have:=mapR_get (levF seed h) (h+1) 0 h (by omega)
  rw [Nat.zero_add] at this
  rw [this]
  unfold levF
  rw [Nat.sub_self]
  rfl
theorem public_eq (k:Nat) {seed:ByteArray} (hs:seed.size≤4000) {h:Nat} (hh:h≤6):ssign_Public (k+100) seed (h:Int)=some (valF seed h 0,0):=by
  have hp:=pow_le6 hh
  unfold ssign_Public
  rw [count_eq _ h hh]
  simp only [Option.bind_some]
  rw [if_neg (by omega),tree_eq k hs hh]
  simp only [Option.bind_some]
  rw [if_pos (by rw [mapR_len];omega),lev_top,if_pos (by simp)]
  rfl
theorem public_no (k:Nat) (seed:ByteArray) {h:Int} (hh:h<0∨6<h):ssign_Public k seed h=some (zA 16,1):=by
  unfold ssign_Public
  rw [count_no k hh]
  simp only [Option.bind_some,reduceIte]
def msgF (pub:Dg) (i:Nat) (m:ByteArray):Dg:=ofD 3 [strL pub.l,strL [2*(i:Int)],m]
theorem msg_eq (k:Nat) (pub:Dg) {i:Nat} (hi:i<64) {m:ByteArray} (hm:m.size≤4000):ssign_Message (k+1) pub (i:Int) m=some (msgF pub i m):=by
  unfold ssign_Message ssign_text
  simp only [Option.bind_some]
  rw [int_small k hi]
  simp only [Option.bind_some]
  rw [shOf3 _ _ (dg_size _) (by rw [strL_size];simp) hm]
  rfl
end Go.Proofs.YtcgdomhednbdpaaDoor
namespace Go.Proofs.YtcgdomhednbdpaaDoor
open Go Go.RowKit
set_option maxRecDepth 100000
def ssign_Sign_L0 (k:Nat) (seed:ByteArray) (index:Int) (rDigits:Ar 35):Nat→Int→(List Int)→Nat→Option (List Int×Nat)
 |0,_,_,_=>none
 |m+1,i,l,n=>(if i<35 then (if (0:Int)≤i∧i<(35:Int) then ((ssign_start k seed index i).bind fun rstart=>((ssign_climb k index i rstart 0 (gx rDigits.l i)).bind fun rclimb=>(if (n+16)*2≤1000000000 then ssign_Sign_L0 k seed index rDigits m (IntKind.i64.wrap (i+1)) (l++rclimb.l) (n+16) else none))) else none) else some (l,n))
def ssign_Sign_L1 (k:Nat) (height:Int) (index:Int) (rtree:List (List (Ar 16))):Nat→Int→(List Int)→Nat→Option (List Int×Nat)
 |0,_,_,_=>none
 |m+1,i2,l2,n2=>(if i2<height then (if (0:Int)≤i2∧i2<(rtree.length:Int) then (if (0:Int)≤i2 then (if (0:Int)≤(IntKind.i64.wrap (((BitVec.ofInt IntKind.i64.bits (index.fdiv (2 ^ (min i2.toNat IntKind.i64.bits))) ^^^ BitVec.ofInt IntKind.i64.bits 1).toNat:Int)))∧(IntKind.i64.wrap (((BitVec.ofInt IntKind.i64.bits (index.fdiv (2 ^ (min i2.toNat IntKind.i64.bits))) ^^^ BitVec.ofInt IntKind.i64.bits 1).toNat:Int)))<((gx rtree i2).length:Int) then (if (n2+16)*2≤1000000000 then ssign_Sign_L1 k height index rtree m (IntKind.i64.wrap (i2+1)) (l2++(gx (gx rtree i2) (IntKind.i64.wrap (((BitVec.ofInt IntKind.i64.bits (index.fdiv (2 ^ (min i2.toNat IntKind.i64.bits))) ^^^ BitVec.ofInt IntKind.i64.bits 1).toNat:Int)))).l) (n2+16) else none) else none) else none) else none) else some (l2,n2))
def ssign_Sign (k:Nat) (seed:ByteArray) (height:Int) (index:Int) (message:ByteArray):Option (ByteArray×Int):=((ssign_Count k height).bind fun rCount=>(if rCount=0 then some ((⟨#[]⟩:ByteArray),1) else (((if index<0 then some true else ((ssign_Count k height).bind fun rCount2=>some (decide (rCount2≤index)))):Option Bool).bind fun s_=>(if s_=true then some ((⟨#[]⟩:ByteArray),14) else ((ssign_tree k seed height).bind fun rtree=>((swire_Int_b k index).bind fun rb=>(if (0:Int)≤height∧height<(rtree.length:Int) then (if (0:Int)≤0∧0<((gx rtree height).length:Int) then ((ssign_Message k (gx (gx rtree height) 0) index message).bind fun rMessage=>((ssign_Digits k rMessage).bind fun rDigits=>((ssign_Sign_L0 k seed index rDigits k 0 rb.1 rb.2:Option (List Int×Nat)).bind fun s_2=>((ssign_Sign_L1 k height index rtree k 0 s_2.1 s_2.2:Option (List Int×Nat)).bind fun s_3=>(if s_3.1.length=s_3.2 then some (strL s_3.1,0) else none))))) else none) else none)))))))
set_option maxHeartbeats 8000000 in
theorem ssign_Sign_ok (ax:Axs) (hx:Pl ax) (k:Nat) (seed:ByteArray) (height:Int) (index:Int) (message:ByteArray) (v:ByteArray×Int) (H:ssign_Sign k seed height index message=some v):Pure Tryd.prog (EE ax) GLs 18 [.str seed,.int .i64 height,.int .i64 index,.str message] (tupT [.str v.1,.int .i64 v.2]):=by
 rw [ssign_Sign] at H
 refine enN [.tmp 8,.tmp 9] 81 [0,1,2,3] (hx.no _ (by decide)) (fn18 ax) ?_
 intro h hh
 repeat apply TW.seq
 refine rk [0,1,2,3] [] hh ?_
 clear hh h
 intro h hh
 repeat apply TW.seq
 apply TW.block
 obtain ⟨rCount,e1,H⟩:=bsome H
 repeat apply TW.seq
 refine rkc [0,1,2,3,17] [] [(.int .i64 rCount,stL [])] hh ?_ ?_
 ·exact ⟨Call0.call ((ssign_Count_ok ax hx k height rCount e1 ).call _),trivial⟩
 clear hh h
 intro h hh
 rcases isp H with ⟨c2,H⟩|⟨c2,H⟩
 rotate_left
 ·skip
  repeat apply TW.seq
  refine cf (f2 hh (decide_eq_false c2)) ?_
  obtain ⟨s_,H1,H⟩:=bsome H
  repeat apply TW.seq
  refine cu [0,1,2,3,21] 0 (fun h bs=>(h 0=.str seed∧h 1=.int .i64 height∧h 2=.int .i64 index∧h 3=.str message∧h 21=.bool s_)∧bs=[]) ?_ ?_
  ·skip
   rcases isp H1 with ⟨c3,H1⟩|⟨c3,H1⟩
   rotate_left
   ·skip
    obtain ⟨rCount2,e4,H1⟩:=bsome H1
    repeat apply TW.seq
    refine rkc [0,1,2,3,21] [] [(.int .i64 rCount2,stL [])] (f2 hh (decide_eq_false c3)) ?_ ?_
    ·exact ⟨Call0.call ((ssign_Count_ok ax hx k height rCount2 e4 ).call _),trivial⟩
    clear hh h
    intro h hh
    cases H1
    exact ce hh ⟨kq hh,rfl⟩
   repeat apply TW.seq
   refine rk [0,1,2,3,21] [] (f2 hh (decide_eq_true c3)) ?_
   clear hh h
   intro h hh
   cases H1
   exact ce hh ⟨kq hh,rfl⟩
  clear hh h
  rintro h bs ⟨hh,rfl⟩
  rcases isb H with ⟨c5,H⟩|⟨c5,H⟩
  rotate_left
  ·skip
   repeat apply TW.seq
   refine cf (f2 hh c5) ?_
   repeat apply TW.seq
   refine sk ?_
   obtain ⟨rtree,e6,H⟩:=bsome H
   repeat apply TW.seq
   refine rkc [0,1,2,3,10] [] [(digss rtree,stL [])] (f2 hh c5) ?_ ?_
   ·exact ⟨Call0.call (Pure.clr (ssign_tree_ok ax hx k seed height rtree e6 ) (by first|rfl|simp only [c5])),trivial⟩
   clear hh h
   intro h hh
   obtain ⟨rb,e7,H⟩:=bsome H
   repeat apply TW.seq
   refine rkc [0,1,2,3,10,11] [] [(.arr 0 1 0 rb.2 rb.2 rb.2,stL [.cells false rb.2 (rb.1.map (T.int .u8))])] (f2 hh c5) ?_ ?_
   ·exact ⟨car [0] (swire_Int_b_ok ax hx k index rb e7),trivial⟩
   clear hh h
   intro h hh
   obtain ⟨g8,H⟩:=isg H
   obtain ⟨g9,H⟩:=isg H
   obtain ⟨rMessage,e10,H⟩:=bsome H
   obtain ⟨rDigits,e11,H⟩:=bsome H
   repeat apply TW.seq
   refine rkc [0,1,2,10,11,44,45] [] [(.agg (rMessage.l.map (T.int .u8)),stL [.cells false rb.2 (rb.1.map (T.int .u8))]),(.agg (rDigits.l.map (T.int .i64)),stL [.cells false rb.2 (rb.1.map (T.int .u8))])] (f3 hh c5 (f2 (gx_some g8) (gx_some g9))) ?_ ?_
   ·exact ⟨Call0.call (Pure.clr (ssign_Message_ok ax hx k (gx (gx rtree height) 0) index message rMessage e10 ) (by first|rfl|simp only [c5])),Call0.call (Pure.clr (ssign_Digits_ok ax hx k rMessage rDigits e11 ) (by first|rfl|simp only [c5])),trivial⟩
   clear hh h
   intro h hh
   obtain ⟨s_2,H1,H⟩:=bsome H
   repeat apply TW.seq
   refine cu [1,2,10,11] 1 (fun h bs=>(h 1=.int .i64 height∧h 2=.int .i64 index∧h 10=digss rtree∧h 11=.arr 0 1 0 s_2.2 s_2.2 s_2.2)∧bs=[.cells false s_2.2 (s_2.1.map (T.int .u8))]) ?_ ?_
   ·skip
    repeat apply TW.seq
    apply TW.block
    repeat apply TW.seq
    refine TW.loopT [0,1,2,10,11,44,45] (fun m h bs=>∃ (i:Int) (l:List Int) (n:Nat),ssign_Sign_L0 k seed index rDigits m i l n=some s_2∧(h 0=.str seed∧h 1=.int .i64 height∧h 2=.int .i64 index∧h 10=digss rtree∧h 11=.arr 0 1 0 n n n∧h 44=.agg (rDigits.l.map (T.int .i64))∧h 45=.int .i64 i)∧bs=[.cells false n (l.map (T.int .u8))]) ?_ k _ _ ?_
    rotate_left
    ·exact ⟨0,rb.1,rb.2,H1,kq hh,rfl⟩
    clear hh h H1
    rintro m h bs ⟨i,l,n,H1,hh,rfl⟩
    rcases m with _|m
    ·rw [ssign_Sign_L0] at H1;cases H1
    rw [ssign_Sign_L0] at H1
    repeat apply TW.seq
    refine rk [0,1,2,10,11,44,45,46] [] (f2 hh c5) ?_
    clear hh h
    intro h hh
    rcases isp H1 with ⟨c12,H1⟩|⟨c12,H1⟩
    rotate_left
    ·skip
     repeat apply TW.seq
     refine cf (f2 hh (decide_eq_false c12)) ?_
     refine xk ?_
     cases H1
     exact ce hh ⟨kq hh,rfl⟩
    repeat apply TW.seq
    refine ct (f2 hh (decide_eq_true c12)) ?_
    repeat apply TW.seq
    refine sk ?_
    repeat apply TW.seq
    apply TW.block
    obtain ⟨g13,H1⟩:=isg H1
    repeat apply TW.seq
    refine rk [0,1,2,10,11,12,13,44,45] [] (f3 hh c5 (arIx rDigits g13)) ?_
    clear hh h
    intro h hh
    obtain ⟨rstart,e14,H1⟩:=bsome H1
    obtain ⟨rclimb,e15,H1⟩:=bsome H1
    repeat apply TW.seq
    refine rkc [0,1,2,10,11,14,44,45] [] [(.agg (rstart.l.map (T.int .u8)),stL [.cells false n (l.map (T.int .u8))]),(.agg (rclimb.l.map (T.int .u8)),stL [.cells false n (l.map (T.int .u8))])] (f2 hh c5) ?_ ?_
    ·exact ⟨Call0.call (Pure.clr (ssign_start_ok ax hx k seed index i rstart e14 ) (by first|rfl|simp only [c5])),Call0.call (Pure.clr (ssign_climb_ok ax hx k index i rstart 0 (gx rDigits.l i) rclimb e15 ) (by first|rfl|simp only [c5])),trivial⟩
    clear hh h
    intro h hh
    obtain ⟨g16,H1⟩:=isg H1
    repeat apply TW.seq
    refine rg [] [] [.cells false (n+16) ((l++rclimb.l).map (T.int .u8)),.cells true 16 (rclimb.l.map (T.int .u8))] (fun h=>h 0=.str seed∧h 1=.int .i64 height∧h 2=.int .i64 index∧h 10=digss rtree∧h 11=.arr 0 1 0 (n+16) (n+16) (n+16)∧h 44=.agg (rDigits.l.map (T.int .i64))∧h 45=.int .i64 i) (f2 hh c5) trivial ?_
    clear hh h
    intro h hh
    repeat apply TW.seq
    refine rk [0,1,2,10,11,44,45] [] (f2 hh c5) ?_
    clear hh h
    intro h hh
    exact rd m hh ⟨(IntKind.i64.wrap (i+1)),(l++rclimb.l),(n+16),H1,kq hh,rfl⟩
   clear hh h
   rintro h bs ⟨hh,rfl⟩
   repeat apply TW.seq
   refine rk [2,10,11,61,62] [] (f2 hh c5) ?_
   clear hh h
   intro h hh
   obtain ⟨s_3,H1,H⟩:=bsome H
   repeat apply TW.seq
   refine cu [11] 1 (fun h bs=>(h 11=.arr 0 1 0 s_3.2 s_3.2 s_3.2)∧bs=[.cells false s_3.2 (s_3.1.map (T.int .u8))]) ?_ ?_
   ·skip
    repeat apply TW.seq
    apply TW.block
    repeat apply TW.seq
    refine TW.loopT [2,10,11,61,62] (fun m h bs=>∃ (i2:Int) (l2:List Int) (n2:Nat),ssign_Sign_L1 k height index rtree m i2 l2 n2=some s_3∧(h 2=.int .i64 index∧h 10=digss rtree∧h 11=.arr 0 1 0 n2 n2 n2∧h 61=.int .i64 height∧h 62=.int .i64 i2)∧bs=[.cells false n2 (l2.map (T.int .u8))]) ?_ k _ _ ?_
    rotate_left
    ·exact ⟨0,s_2.1,s_2.2,H1,kq hh,rfl⟩
    clear hh h H1
    rintro m h bs ⟨i2,l2,n2,H1,hh,rfl⟩
    rcases m with _|m
    ·rw [ssign_Sign_L1] at H1;cases H1
    rw [ssign_Sign_L1] at H1
    repeat apply TW.seq
    refine rk [2,10,11,61,62,63] [] (f2 hh c5) ?_
    clear hh h
    intro h hh
    rcases isp H1 with ⟨c17,H1⟩|⟨c17,H1⟩
    rotate_left
    ·skip
     repeat apply TW.seq
     refine cf (f2 hh (decide_eq_false c17)) ?_
     refine xk ?_
     cases H1
     exact ce hh ⟨kq hh,rfl⟩
    repeat apply TW.seq
    refine ct (f2 hh (decide_eq_true c17)) ?_
    repeat apply TW.seq
    refine sk ?_
    repeat apply TW.seq
    apply TW.block
    repeat apply TW.seq
    refine rk [2,10,11,15,61,62] [] (f2 hh c5) ?_
    clear hh h
    intro h hh
    obtain ⟨g18,H1⟩:=isg H1
    obtain ⟨g19,H1⟩:=isg H1
    obtain ⟨g20,H1⟩:=isg H1
    repeat apply TW.seq
    refine dk 0 [2,10,11,16,61,62] [] [] [] (f3 hh c5 (f2 (gx_some g18) (gx_some g20))) trivial trivial ?_
    clear hh h
    intro h hh
    obtain ⟨g21,H1⟩:=isg H1
    repeat apply TW.seq
    refine rg [] [] [.cells false (n2+16) ((l2++(gx (gx rtree i2) (IntKind.i64.wrap (((BitVec.ofInt IntKind.i64.bits (index.fdiv (2 ^ (min i2.toNat IntKind.i64.bits))) ^^^ BitVec.ofInt IntKind.i64.bits 1).toNat:Int)))).l).map (T.int .u8)),.cells true 16 ((gx (gx rtree i2) (IntKind.i64.wrap (((BitVec.ofInt IntKind.i64.bits (index.fdiv (2 ^ (min i2.toNat IntKind.i64.bits))) ^^^ BitVec.ofInt IntKind.i64.bits 1).toNat:Int)))).l.map (T.int .u8))] (fun h=>h 2=.int .i64 index∧h 10=digss rtree∧h 11=.arr 0 1 0 (n2+16) (n2+16) (n2+16)∧h 61=.int .i64 height∧h 62=.int .i64 i2) (f2 hh c5) trivial ?_
    clear hh h
    intro h hh
    repeat apply TW.seq
    refine rk [2,10,11,61,62] [] (f2 hh c5) ?_
    clear hh h
    intro h hh
    exact rd m hh ⟨(IntKind.i64.wrap (i2+1)),(l2++(gx (gx rtree i2) (IntKind.i64.wrap (((BitVec.ofInt IntKind.i64.bits (index.fdiv (2 ^ (min i2.toNat IntKind.i64.bits))) ^^^ BitVec.ofInt IntKind.i64.bits 1).toNat:Int)))).l),(n2+16),H1,kq hh,rfl⟩
   clear hh h
   rintro h bs ⟨hh,rfl⟩
   obtain ⟨g22,H⟩:=isg H
   repeat apply TW.seq
   refine rk [8,9] [] (f3 hh c5 (f3 (@tStr.eq_1) (isu8 ax) (f2 (@tSrc.eq_4) (takeAll (k:=.u8) g22)))) ?_
   clear hh h
   intro h hh
   cases H
   exact rt hh
  repeat apply TW.seq
  refine ct (f2 hh c5) ?_
  repeat apply TW.seq
  refine rk [8,9] [] (f2 hh c5) ?_
  clear hh h
  intro h hh
  cases H
  exact rt hh
 repeat apply TW.seq
 refine ct (f2 hh (decide_eq_true c2)) ?_
 repeat apply TW.seq
 refine rk [8,9] [] hh ?_
 clear hh h
 intro h hh
 cases H
 exact rt hh
def ssign_Verify_1 (k:Nat) (k_:Int) (fv:ByteArray) (fv2:Int):Option (Ar 16):=(if (0:Int)≤(IntKind.i64.wrap (fv2+(IntKind.i64.wrap (k_*16))))∧(IntKind.i64.wrap (fv2+(IntKind.i64.wrap (k_*16))))≤(fv.size:Int) then ((ssign_digest k (fv.extract (IntKind.i64.wrap (fv2+(IntKind.i64.wrap (k_*16)))).toNat fv.size)).bind fun rdigest=>some rdigest) else none)
set_option maxHeartbeats 8000000 in
theorem ssign_Verify_1_ok (ax:Axs) (hx:Pl ax) (k:Nat) (k_:Int) (fv:ByteArray) (fv2:Int) (v:Ar 16) (H:ssign_Verify_1 k k_ fv fv2=some v):Pure Tryd.prog (EE ax) GLs 38 [.int .i64 k_,.cp [.str fv],.cp [.int .i64 fv2]] (.agg (v.l.map (T.int .u8))):=by
 rw [ssign_Verify_1] at H
 refine en [.cell 4 23] 12 [0,1,2] (hx.no _ (by decide)) (fn38 ax) ?_
 intro h hh
 repeat apply TW.seq
 refine rk [0,1,2,4] [] hh ?_
 clear hh h
 intro h hh
 obtain ⟨g1,H⟩:=isg H
 obtain ⟨rdigest,e2,H⟩:=bsome H
 repeat apply TW.seq
 refine rkc [4] [] [(.agg (rdigest.l.map (T.int .u8)),stL [.cells true 16 ((zA 16).l.map (T.int .u8))])] (f2 hh (bnd_lo g1)) ?_ ?_
 ·exact ⟨Call0.call ((ssign_digest_ok ax hx k (fv.extract (IntKind.i64.wrap (fv2+(IntKind.i64.wrap (k_*16)))).toNat fv.size) rdigest e2 ).call _),trivial⟩
 clear hh h
 intro h hh
 cases H
 exact rtc hh
def ssign_Verify_2 (k:Nat) (j:Int) (fv:Int) (fv2:Int→Option (Ar 16)) (fv3:Ar 35):Option (Ar 16):=((fv2 j).bind fun r=>(if (0:Int)≤j∧j<(35:Int) then ((ssign_climb k fv j r (gx fv3.l j) 15).bind fun rclimb=>some rclimb) else none))
set_option maxHeartbeats 8000000 in
theorem ssign_Verify_2_ok (ax:Axs) (hx:Pl ax) (k:Nat) (j:Int) (fv:Int) (fv2:Int→Option (Ar 16)) (fv3:Ar 35) (v:Ar 16) (H:ssign_Verify_2 k j fv fv2 fv3=some v) (fv2_f:Nat) (fv2_c:List T) (fv2_i:T.idsL 0 fv2_c=true) (fv2_h:∀ (y0:Int) (w:Ar 16),fv2 y0=some w→Pure Tryd.prog (EE ax) GLs fv2_f ([]++[.int .i64 y0]++fv2_c) (.agg (w.l.map (T.int .u8)))):Pure Tryd.prog (EE ax) GLs 41 [.int .i64 j,.cp [.int .i64 fv],.cp [.fn fv2_f [] fv2_c],.cp (fv3.l.map (T.int .i64))] (.agg (v.l.map (T.int .u8))):=by
 rw [ssign_Verify_2] at H
 refine en (ha:=by simp only [ids2B,ids2C,idsA,idsB,fv2_i,Bool.and_self]) [.cell 5 23] 15 [0,1,2,3] (hx.no _ (by decide)) (fn41 ax) ?_
 intro h hh
 repeat apply TW.seq
 refine rk [0,1,2,3,5] [] hh ?_
 clear hh h
 intro h hh
 obtain ⟨r,e1,H⟩:=bsome H
 obtain ⟨g2,H⟩:=isg H
 obtain ⟨rclimb,e3,H⟩:=bsome H
 repeat apply TW.seq
 refine dk 8 [5] [.agg (r.l.map (T.int .u8))] [] [(.agg (rclimb.l.map (T.int .u8)),stL [.cells true 16 ((zA 16).l.map (T.int .u8))])] (f3 hh ag60 (f2 (arCp (k:=.i64) fv3 g2) (ti60 ax))) ?_ ?_ ?_
 ·exact ⟨(fv2_h j r e1).call _,trivial⟩
 ·exact ⟨Call0.call ((ssign_climb_ok ax hx k fv j r (gx fv3.l j) 15 rclimb e3 ).call _),trivial⟩
 clear hh h
 intro h hh
 cases H
 exact rtc hh
def ssign_Verify_L0 (k:Nat) (height:Int) (signature:ByteArray) (rGetInt:Int×Int×Int):Nat→Int→(Ar 16)→Option (Ar 16)
 |0,_,_=>none
 |m+1,i,x=>(if i<height then ((ssign_Verify_1 k (IntKind.i64.wrap (35+i)) signature rGetInt.2.1).bind fun r1=>(if (0:Int)≤i then (if (IntKind.i64.wrap (((BitVec.ofInt IntKind.i64.bits (rGetInt.1.fdiv (2 ^ (min i.toNat IntKind.i64.bits))) &&& BitVec.ofInt IntKind.i64.bits 1).toNat:Int)))=1 then (if (0:Int)≤(IntKind.i64.wrap (i+1)) then ((ssign_join k (IntKind.i64.wrap (i+1)) (rGetInt.1.fdiv (2 ^ (min (IntKind.i64.wrap (i+1)).toNat IntKind.i64.bits))) r1 x).bind fun rjoin=>ssign_Verify_L0 k height signature rGetInt m (IntKind.i64.wrap (i+1)) rjoin) else none) else (if (0:Int)≤(IntKind.i64.wrap (i+1)) then ((ssign_join k (IntKind.i64.wrap (i+1)) (rGetInt.1.fdiv (2 ^ (min (IntKind.i64.wrap (i+1)).toNat IntKind.i64.bits))) x r1).bind fun rjoin2=>ssign_Verify_L0 k height signature rGetInt m (IntKind.i64.wrap (i+1)) rjoin2) else none)) else none)) else some x)
def ssign_Verify (k:Nat) (public_:Ar 16) (height:Int) (message:ByteArray) (signature:ByteArray):Option (Int×Int):=((ssign_Count k height).bind fun rCount=>(if rCount=0 then some (0,1) else (if signature.size≤1000000000 then ((swire_GetInt k (bytL signature)).bind fun rGetInt=>((ssign_Size k height rGetInt.1).bind fun rSize=>(if rGetInt.2.2≠0 then some (0,rGetInt.2.2) else (if rSize=0 then some (0,8) else (if (signature.size:Int)<rSize then some (0,5) else (if rSize<(signature.size:Int) then some (0,6) else ((ssign_Message k public_ rGetInt.1 message).bind fun rMessage=>((ssign_Digits k rMessage).bind fun rDigits=>((ssign_leaf k (fun y=>ssign_Verify_2 k y rGetInt.1 (fun y2=>ssign_Verify_1 k y2 signature rGetInt.2.1) rDigits)).bind fun rleaf=>((ssign_Verify_L0 k height signature rGetInt k 0 rleaf:Option (Ar 16)).bind fun s_=>(if s_=public_ then some (rGetInt.1,0) else some (0,8)))))))))))) else none)))
set_option maxHeartbeats 8000000 in
theorem ssign_Verify_ok (ax:Axs) (hx:Pl ax) (k:Nat) (public_:Ar 16) (height:Int) (message:ByteArray) (signature:ByteArray) (v:Int×Int) (H:ssign_Verify k public_ height message signature=some v):Pure Tryd.prog (EE ax) GLs 22 [.agg (public_.l.map (T.int .u8)),.int .i64 height,.str message,.str signature] (tupT [.int .i64 v.1,.int .i64 v.2]):=by
 rw [ssign_Verify] at H
 refine enN [.tmp 8,.tmp 9] 93 [0,1,2,3] (hx.no _ (by decide)) (fn22 ax) ?_
 intro h hh
 repeat apply TW.seq
 refine rk [1,2,4,7] [] hh ?_
 clear hh h
 intro h hh
 refine zk 7 1 1 true [.str signature] [1,2,4,7] hh ?_
 clear hh h
 intro h hh
 obtain ⟨rCount,e1,H⟩:=bsome H
 repeat apply TW.seq
 refine rkc [1,2,4,7,21] [] [(.int .i64 rCount,stL [.cells true 16 (public_.l.map (T.int .u8)),.gone])] hh ?_ ?_
 ·exact ⟨Call0.call ((ssign_Count_ok ax hx k height rCount e1 ).call _),trivial⟩
 clear hh h
 intro h hh
 rcases isp H with ⟨c2,H⟩|⟨c2,H⟩
 rotate_left
 ·skip
  repeat apply TW.seq
  refine cf (f2 hh (decide_eq_false c2)) ?_
  repeat apply TW.seq
  refine sk ?_
  obtain ⟨g3,H⟩:=isg H
  obtain ⟨rGetInt,e4,H⟩:=bsome H
  repeat apply TW.seq
  refine rkc [1,2,4,7,10,11,12] [] [(.tup [.int .i64 rGetInt.1,.int .i64 rGetInt.2.1,.int .i64 rGetInt.2.2],stL [.cells true 16 (public_.l.map (T.int .u8)),.gone])] (f3 hh (isu8 ax) (bytL_len signature)) ?_ ?_
  ·exact ⟨Call0.call ((swire_GetInt_ok ax hx k (bytL signature) rGetInt e4 ).call _),trivial⟩
  clear hh h
  intro h hh
  refine zk 10 2 1 true [.int .i64 rGetInt.1] [1,2,4,7,10,11,12] hh ?_
  clear hh h
  intro h hh
  refine zk 11 3 1 true [.int .i64 rGetInt.2.1] [1,2,4,7,10,11,12] hh ?_
  clear hh h
  intro h hh
  obtain ⟨rSize,e5,H⟩:=bsome H
  repeat apply TW.seq
  refine rkc [1,2,4,7,10,11,12,13] [] [(.int .i64 rSize,stL [.cells true 16 (public_.l.map (T.int .u8)),.gone,.gone,.gone])] hh ?_ ?_
  ·exact ⟨Call0.call ((ssign_Size_ok ax hx k height rGetInt.1 rSize e5 ).call _),trivial⟩
  clear hh h
  intro h hh
  repeat apply TW.seq
  apply TW.block
  repeat apply TW.seq
  refine rk [1,2,4,7,10,11,12,13,32] [] hh ?_
  clear hh h
  intro h hh
  rcases isp H with ⟨c6,H⟩|⟨c6,H⟩
  rotate_left
  ·skip
   repeat apply TW.seq
   refine cf (f2 hh (decide_eq_false c6)) ?_
   repeat apply TW.seq
   refine rk [1,2,4,7,10,11,13,36] [] hh ?_
   clear hh h
   intro h hh
   rcases isp H with ⟨c7,H⟩|⟨c7,H⟩
   rotate_left
   ·skip
    repeat apply TW.seq
    refine cf (f2 hh (decide_eq_false c7)) ?_
    repeat apply TW.seq
    refine rk [1,2,4,7,10,11,13,39] [] hh ?_
    clear hh h
    intro h hh
    rcases isp H with ⟨c8,H⟩|⟨c8,H⟩
    rotate_left
    ·skip
     repeat apply TW.seq
     refine cf (f2 hh (decide_eq_false c8)) ?_
     repeat apply TW.seq
     refine rk [1,2,4,7,10,11,44] [] hh ?_
     clear hh h
     intro h hh
     rcases isp H with ⟨c9,H⟩|⟨c9,H⟩
     rotate_left
     ·skip
      repeat apply TW.seq
      refine cf (f2 hh (decide_eq_false c9)) ?_
      repeat apply TW.seq
      refine sk ?_
      repeat apply TW.seq
      refine rk [1,2,4,10,14] [] (f3 hh ag60 (ti60 ax)) ?_
      clear hh h
      intro h hh
      refine zk 14 4 1 true [.fn 38 [] [.cp [.str signature],.cp [.int .i64 rGetInt.2.1]]] [1,2,4,10,14] hh ?_
      clear hh h
      intro h hh
      obtain ⟨rMessage,e10,H⟩:=bsome H
      obtain ⟨rDigits,e11,H⟩:=bsome H
      repeat apply TW.seq
      refine rkc [1,4,10,14,15] [] [(.agg (rMessage.l.map (T.int .u8)),stL [.cells true 16 (public_.l.map (T.int .u8)),.gone,.gone,.gone,.gone]),(.agg (rDigits.l.map (T.int .i64)),stL [.cells true 16 (public_.l.map (T.int .u8)),.gone,.gone,.gone,.gone])] hh ?_ ?_
      ·exact ⟨Call0.call ((ssign_Message_ok ax hx k public_ rGetInt.1 message rMessage e10 ).call _),Call0.call ((ssign_Digits_ok ax hx k rMessage rDigits e11 ).call _),trivial⟩
      clear hh h
      intro h hh
      refine zk 15 5 35 true (rDigits.l.map (T.int .i64)) [1,4,10,14,15] hh ?_
      clear hh h
      intro h hh
      obtain ⟨rleaf,e12,H⟩:=bsome H
      repeat apply TW.seq
      refine rkc [1,4,10,14,16] [] [(.agg (rleaf.l.map (T.int .u8)),stL [.cells true 16 (public_.l.map (T.int .u8)),.gone,.gone,.gone,.gone,.gone])] hh ?_ ?_
      ·exact ⟨Call0.call ((ssign_leaf_ok ax hx k (fun y=>ssign_Verify_2 k y rGetInt.1 (fun y2=>ssign_Verify_1 k y2 signature rGetInt.2.1) rDigits) rleaf e12 41 [.cp [.int .i64 rGetInt.1],.cp [.fn 38 [] [.cp [.str signature],.cp [.int .i64 rGetInt.2.1]]],.cp (rDigits.l.map (T.int .i64))] (by simp only [ids2B,ids2C,idsA,idsB,Bool.and_self]) (fun y w hw=>by first|exact ssign_Verify_2_ok ax hx k y rGetInt.1 (fun y2=>ssign_Verify_1 k y2 signature rGetInt.2.1) rDigits w hw 38 [.cp [.str signature],.cp [.int .i64 rGetInt.2.1]] (by simp only [ids2B,ids2C,idsA,idsB,Bool.and_self]) (fun y2 w hw=>by first|exact ssign_Verify_1_ok ax hx k y2 signature rGetInt.2.1 w hw|exact (ssign_Verify_1_ok ax hx k y2 signature rGetInt.2.1 w hw))|exact (ssign_Verify_2_ok ax hx k y rGetInt.1 (fun y2=>ssign_Verify_1 k y2 signature rGetInt.2.1) rDigits w hw 38 [.cp [.str signature],.cp [.int .i64 rGetInt.2.1]] (by simp only [ids2B,ids2C,idsA,idsB,Bool.and_self]) (fun y2 w hw=>by first|exact ssign_Verify_1_ok ax hx k y2 signature rGetInt.2.1 w hw|exact (ssign_Verify_1_ok ax hx k y2 signature rGetInt.2.1 w hw))))).call _),trivial⟩
      clear hh h
      intro h hh
      repeat apply TW.seq
      refine rk [4,10,14,16,57,58] [] hh ?_
      clear hh h
      intro h hh
      obtain ⟨s_,H1,H⟩:=bsome H
      repeat apply TW.seq
      refine cu [4,10,16] 7 (fun h bs=>(h 4=.ptr 0 0 16∧h 10=.cp [.int .i64 rGetInt.1]∧h 16=.ptr 6 0 16)∧bs=[.cells true 16 (public_.l.map (T.int .u8)),.gone,.gone,.gone,.gone,.gone,.cells true 16 (s_.l.map (T.int .u8))]) ?_ ?_
      ·skip
       repeat apply TW.seq
       apply TW.block
       repeat apply TW.seq
       refine TW.loopT [4,10,14,16,57,58] (fun m h bs=>∃ (i:Int) (x:Ar 16),ssign_Verify_L0 k height signature rGetInt m i x=some s_∧(h 4=.ptr 0 0 16∧h 10=.cp [.int .i64 rGetInt.1]∧h 14=.cp [.fn 38 [] [.cp [.str signature],.cp [.int .i64 rGetInt.2.1]]]∧h 16=.ptr 6 0 16∧h 57=.int .i64 height∧h 58=.int .i64 i)∧bs=[.cells true 16 (public_.l.map (T.int .u8)),.gone,.gone,.gone,.gone,.gone,.cells true 16 (x.l.map (T.int .u8))]) ?_ k _ _ ?_
       rotate_left
       ·exact ⟨0,rleaf,H1,kq hh,rfl⟩
       clear hh h H1
       rintro m h bs ⟨i,x,H1,hh,rfl⟩
       rcases m with _|m
       ·rw [ssign_Verify_L0] at H1;cases H1
       rw [ssign_Verify_L0] at H1
       repeat apply TW.seq
       refine rk [4,10,14,16,57,58,59] [] hh ?_
       clear hh h
       intro h hh
       rcases isp H1 with ⟨c13,H1⟩|⟨c13,H1⟩
       rotate_left
       ·skip
        repeat apply TW.seq
        refine cf (f2 hh (decide_eq_false c13)) ?_
        refine xk ?_
        cases H1
        exact ce hh ⟨kq hh,rfl⟩
       repeat apply TW.seq
       refine ct (f2 hh (decide_eq_true c13)) ?_
       repeat apply TW.seq
       refine sk ?_
       repeat apply TW.seq
       apply TW.block
       repeat apply TW.seq
       refine rk [4,10,14,16,17,57,58] [] hh ?_
       clear hh h
       intro h hh
       obtain ⟨r1,e14,H1⟩:=bsome H1
       repeat apply TW.seq
       refine rkc [4,10,14,16,17,18,57,58] [] [(.agg (r1.l.map (T.int .u8)),stL [.cells true 16 (public_.l.map (T.int .u8)),.gone,.gone,.gone,.gone,.gone,.cells true 16 (x.l.map (T.int .u8))])] (f3 hh ag60 (ti60 ax)) ?_ ?_
       ·exact ⟨Call0.call ((ssign_Verify_1_ok ax hx k (IntKind.i64.wrap (35+i)) signature rGetInt.2.1 r1 e14 ).call _),trivial⟩
       clear hh h
       intro h hh
       obtain ⟨g15,H1⟩:=isg H1
       repeat apply TW.seq
       refine rk [4,10,14,16,17,18,57,58,69] [] hh ?_
       clear hh h
       intro h hh
       rcases isp H1 with ⟨c16,H1⟩|⟨c16,H1⟩
       rotate_left
       ·skip
        repeat apply TW.seq
        refine cf (f2 hh (decide_eq_false c16)) ?_
        obtain ⟨g19,H1⟩:=isg H1
        obtain ⟨rjoin2,e20,H1⟩:=bsome H1
        repeat apply TW.seq
        refine dk 8 [4,10,14,16,57,58] [] [] [(.agg (rjoin2.l.map (T.int .u8)),stL [.cells true 16 (public_.l.map (T.int .u8)),.gone,.gone,.gone,.gone,.gone,.cells true 16 (x.l.map (T.int .u8)),.cells true 16 (r1.l.map (T.int .u8))])] hh trivial ?_ ?_
        ·exact ⟨Call0.call ((ssign_join_ok ax hx k (IntKind.i64.wrap (i+1)) (rGetInt.1.fdiv (2 ^ (min (IntKind.i64.wrap (i+1)).toNat IntKind.i64.bits))) x r1 rjoin2 e20 ).call _),trivial⟩
        clear hh h
        intro h hh
        repeat apply TW.seq
        refine rk [4,10,14,16,57,58] [] hh ?_
        clear hh h
        intro h hh
        exact rd m hh ⟨(IntKind.i64.wrap (i+1)),rjoin2,H1,kq hh,rfl⟩
       repeat apply TW.seq
       refine ct (f2 hh (decide_eq_true c16)) ?_
       obtain ⟨g17,H1⟩:=isg H1
       obtain ⟨rjoin,e18,H1⟩:=bsome H1
       repeat apply TW.seq
       refine dk 8 [4,10,14,16,57,58] [] [] [(.agg (rjoin.l.map (T.int .u8)),stL [.cells true 16 (public_.l.map (T.int .u8)),.gone,.gone,.gone,.gone,.gone,.cells true 16 (x.l.map (T.int .u8)),.cells true 16 (r1.l.map (T.int .u8))])] hh trivial ?_ ?_
       ·exact ⟨Call0.call ((ssign_join_ok ax hx k (IntKind.i64.wrap (i+1)) (rGetInt.1.fdiv (2 ^ (min (IntKind.i64.wrap (i+1)).toNat IntKind.i64.bits))) r1 x rjoin e18 ).call _),trivial⟩
       clear hh h
       intro h hh
       repeat apply TW.seq
       refine rk [4,10,14,16,57,58] [] hh ?_
       clear hh h
       intro h hh
       exact rd m hh ⟨(IntKind.i64.wrap (i+1)),rjoin,H1,kq hh,rfl⟩
      clear hh h
      rintro h bs ⟨hh,rfl⟩
      repeat apply TW.seq
      refine rk [10,91] [] (f2 hh ((aq23 ax s_ public_).2)) ?_
      clear hh h
      intro h hh
      rcases isp H with ⟨c21,H⟩|⟨c21,H⟩
      rotate_left
      ·skip
       repeat apply TW.seq
       refine ct (f2 hh (decide_eq_false c21)) ?_
       repeat apply TW.seq
       refine rk [8,9] [] hh ?_
       clear hh h
       intro h hh
       cases H
       exact rt hh
      repeat apply TW.seq
      refine cf (f2 hh (decide_eq_true c21)) ?_
      repeat apply TW.seq
      refine sk ?_
      repeat apply TW.seq
      refine rk [8,9] [] hh ?_
      clear hh h
      intro h hh
      cases H
      exact rt hh
     repeat apply TW.seq
     refine ct (f2 hh (decide_eq_true c9)) ?_
     repeat apply TW.seq
     refine rk [8,9] [] hh ?_
     clear hh h
     intro h hh
     cases H
     exact rt hh
    repeat apply TW.seq
    refine ct (f2 hh (decide_eq_true c8)) ?_
    repeat apply TW.seq
    refine rk [8,9] [] hh ?_
    clear hh h
    intro h hh
    cases H
    exact rt hh
   repeat apply TW.seq
   refine ct (f2 hh (decide_eq_true c7)) ?_
   repeat apply TW.seq
   refine rk [8,9] [] hh ?_
   clear hh h
   intro h hh
   cases H
   exact rt hh
  repeat apply TW.seq
  refine ct (f2 hh (decide_eq_true c6)) ?_
  repeat apply TW.seq
  refine rk [8,9] [] hh ?_
  clear hh h
  intro h hh
  cases H
  exact rt hh
 repeat apply TW.seq
 refine ct (f2 hh (decide_eq_true c2)) ?_
 repeat apply TW.seq
 refine rk [8,9] [] hh ?_
 clear hh h
 intro h hh
 cases H
 exact rt hh
def sl_sanity (k:Nat)  : Option Bool:=((ssign_Digits k (zA 16)).bind fun rDigits=>((ssign_Digits k (mkAr 16 [255,16,0,0,0,0,0,0,0,0,0,0,0,0,0,0])).bind fun rDigits2=>((ssign_Public k (⟨#[115]⟩:ByteArray) 7).bind fun rPublic=>((ssign_Sign k (⟨#[115]⟩:ByteArray) 1 2 (⟨#[109]⟩:ByteArray)).bind fun rSign=>((ssign_Public k (⟨#[115]⟩:ByteArray) 0).bind fun rPublic2=>((ssign_Sign k (⟨#[115]⟩:ByteArray) 0 0 (⟨#[109]⟩:ByteArray)).bind fun rSign2=>((ssign_Verify k rPublic2.1 0 (⟨#[109]⟩:ByteArray) rSign2.1).bind fun rVerify=>(if rSign2.1.size+(⟨#[120]⟩:ByteArray).size≤9223372036854775807 then ((ssign_Verify k rPublic2.1 0 (⟨#[109]⟩:ByteArray) (rSign2.1++(⟨#[120]⟩:ByteArray))).bind fun rVerify2=>(((if rPublic.2≠1 then some true else (if rSign.2≠14 then some true else (if rPublic2.2≠0 then some true else (if rSign2.2≠0 then some true else (if rVerify.2≠0 then some true else some (decide (rVerify2.2≠6))))))):Option Bool).bind fun s_=>(if s_=true then some false else (((if (0:Int)≤0∧0<(35:Int) then (if (gx rDigits.l 0)=0 then (if (0:Int)≤31∧31<(35:Int) then (if (gx rDigits.l 31)=0 then (if (0:Int)≤32∧32<(35:Int) then (if (gx rDigits.l 32)=1 then (if (0:Int)≤33∧33<(35:Int) then (if (gx rDigits.l 33)=14 then (if (0:Int)≤34∧34<(35:Int) then (if (gx rDigits.l 34)=0 then (if (gx rDigits2.l 0)=15 then (if (0:Int)≤1∧1<(35:Int) then (if (gx rDigits2.l 1)=15 then (if (0:Int)≤2∧2<(35:Int) then (if (gx rDigits2.l 2)=1 then (if (0:Int)≤3∧3<(35:Int) then (if (gx rDigits2.l 3)=0 then (if (gx rDigits2.l 32)=1 then (if (gx rDigits2.l 33)=12 then some (decide ((gx rDigits2.l 34)=1)) else some false) else some false) else some false) else none) else some false) else none) else some false) else none) else some false) else some false) else none) else some false) else none) else some false) else none) else some false) else none) else some false) else none):Option Bool).bind fun s_2=>(if s_2=true then (if rVerify.1=0 then ((ssign_Count k 3).bind fun rCount=>(if rCount=8 then ((ssign_Size k 2 3).bind fun rSize=>(if rSize=593 then ((ssign_Size k 0 0).bind fun rSize2=>some (decide ((rSign2.1.size:Int)=rSize2))) else some false)) else some false)) else some false) else some false))))) else none))))))))
set_option maxHeartbeats 8000000 in
theorem sl_sanity_ok (ax:Axs) (hx:Pl ax) (k:Nat)  (v:Bool) (H:sl_sanity k  = some v):Pure Tryd.prog (EE ax) GLs 9 [] (.bool v):=by
 rw [sl_sanity] at H
 refine en [.tmp 0] 148 [] (hx.no _ (by decide)) (fn9 ax) ?_
 intro h hh
 repeat apply TW.seq
 refine rk [] [] hh ?_
 clear hh h
 intro h hh
 obtain ⟨rDigits,e1,H⟩:=bsome H
 repeat apply TW.seq
 refine rkc [1] [] [(.agg (rDigits.l.map (T.int .i64)),stL [])] (f2 hh (bz23 ax)) ?_ ?_
 ·exact ⟨Call0.call ((ssign_Digits_ok ax hx k (zA 16) rDigits e1 ).call _),trivial⟩
 clear hh h
 intro h hh
 obtain ⟨rDigits2,e2,H⟩:=bsome H
 repeat apply TW.seq
 refine rkc [1,2] [] [(.agg (rDigits2.l.map (T.int .i64)),stL [.cells true 35 (rDigits.l.map (T.int .i64))])] (f2 hh (bb23_2 ax)) ?_ ?_
 ·exact ⟨Call0.call ((ssign_Digits_ok ax hx k (mkAr 16 [255,16,0,0,0,0,0,0,0,0,0,0,0,0,0,0]) rDigits2 e2 ).call _),trivial⟩
 clear hh h
 intro h hh
 obtain ⟨rPublic,e3,H⟩:=bsome H
 repeat apply TW.seq
 refine rkc [1,2,4] [] [(.tup [.agg (rPublic.1.l.map (T.int .u8)),.int .i64 rPublic.2],stL [.cells true 35 (rDigits.l.map (T.int .i64)),.cells true 35 (rDigits2.l.map (T.int .i64))])] hh ?_ ?_
 ·exact ⟨Call0.call ((ssign_Public_ok ax hx k (⟨#[115]⟩:ByteArray) 7 rPublic e3 ).call _),trivial⟩
 clear hh h
 intro h hh
 obtain ⟨rSign,e4,H⟩:=bsome H
 repeat apply TW.seq
 refine rkc [1,2,4,6] [] [(.tup [.str rSign.1,.int .i64 rSign.2],stL [.cells true 35 (rDigits.l.map (T.int .i64)),.cells true 35 (rDigits2.l.map (T.int .i64)),.cells true 16 (rPublic.1.l.map (T.int .u8))])] hh ?_ ?_
 ·exact ⟨Call0.call ((ssign_Sign_ok ax hx k (⟨#[115]⟩:ByteArray) 1 2 (⟨#[109]⟩:ByteArray) rSign e4 ).call _),trivial⟩
 clear hh h
 intro h hh
 obtain ⟨rPublic2,e5,H⟩:=bsome H
 repeat apply TW.seq
 refine rkc [1,2,4,6,7,8] [] [(.tup [.agg (rPublic2.1.l.map (T.int .u8)),.int .i64 rPublic2.2],stL [.cells true 35 (rDigits.l.map (T.int .i64)),.cells true 35 (rDigits2.l.map (T.int .i64)),.cells true 16 (rPublic.1.l.map (T.int .u8))])] hh ?_ ?_
 ·exact ⟨Call0.call ((ssign_Public_ok ax hx k (⟨#[115]⟩:ByteArray) 0 rPublic2 e5 ).call _),trivial⟩
 clear hh h
 intro h hh
 obtain ⟨rSign2,e6,H⟩:=bsome H
 repeat apply TW.seq
 refine rkc [1,2,4,6,7,8,9,10] [] [(.tup [.str rSign2.1,.int .i64 rSign2.2],stL [.cells true 35 (rDigits.l.map (T.int .i64)),.cells true 35 (rDigits2.l.map (T.int .i64)),.cells true 16 (rPublic.1.l.map (T.int .u8)),.cells true 16 (rPublic2.1.l.map (T.int .u8))])] hh ?_ ?_
 ·exact ⟨Call0.call ((ssign_Sign_ok ax hx k (⟨#[115]⟩:ByteArray) 0 0 (⟨#[109]⟩:ByteArray) rSign2 e6 ).call _),trivial⟩
 clear hh h
 intro h hh
 obtain ⟨rVerify,e7,H⟩:=bsome H
 repeat apply TW.seq
 refine rkc [1,2,4,6,7,8,9,10,11,12] [] [(.tup [.int .i64 rVerify.1,.int .i64 rVerify.2],stL [.cells true 35 (rDigits.l.map (T.int .i64)),.cells true 35 (rDigits2.l.map (T.int .i64)),.cells true 16 (rPublic.1.l.map (T.int .u8)),.cells true 16 (rPublic2.1.l.map (T.int .u8))])] hh ?_ ?_
 ·exact ⟨Call0.call ((ssign_Verify_ok ax hx k rPublic2.1 0 (⟨#[109]⟩:ByteArray) rSign2.1 rVerify e7 ).call _),trivial⟩
 clear hh h
 intro h hh
 obtain ⟨g8,H⟩:=isg H
 obtain ⟨rVerify2,e9,H⟩:=bsome H
 repeat apply TW.seq
 refine rkc [1,2,4,6,8,9,10,11,12,14] [] [(.tup [.int .i64 rVerify2.1,.int .i64 rVerify2.2],stL [.cells true 35 (rDigits.l.map (T.int .i64)),.cells true 35 (rDigits2.l.map (T.int .i64)),.cells true 16 (rPublic.1.l.map (T.int .u8)),.cells true 16 (rPublic2.1.l.map (T.int .u8))])] (f2 hh (sb_add g8)) ?_ ?_
 ·exact ⟨Call0.call ((ssign_Verify_ok ax hx k rPublic2.1 0 (⟨#[109]⟩:ByteArray) (rSign2.1++(⟨#[120]⟩:ByteArray)) rVerify2 e9 ).call _),trivial⟩
 clear hh h
 intro h hh
 obtain ⟨s_,H1,H⟩:=bsome H
 repeat apply TW.seq
 refine cu [1,2,9,11,70] 4 (fun h bs=>(h 1=.ptr 0 0 35∧h 2=.ptr 1 0 35∧h 9=.str rSign2.1∧h 11=.int .i64 rVerify.1∧h 70=.bool s_)∧bs=[.cells true 35 (rDigits.l.map (T.int .i64)),.cells true 35 (rDigits2.l.map (T.int .i64)),.cells true 16 (rPublic.1.l.map (T.int .u8)),.cells true 16 (rPublic2.1.l.map (T.int .u8))]) ?_ ?_
 ·skip
  rcases isp H1 with ⟨c10,H1⟩|⟨c10,H1⟩
  rotate_left
  ·skip
   rcases isp H1 with ⟨c11,H1⟩|⟨c11,H1⟩
   rotate_left
   ·skip
    rcases isp H1 with ⟨c12,H1⟩|⟨c12,H1⟩
    rotate_left
    ·skip
     rcases isp H1 with ⟨c13,H1⟩|⟨c13,H1⟩
     rotate_left
     ·skip
      rcases isp H1 with ⟨c14,H1⟩|⟨c14,H1⟩
      rotate_left
      ·skip
       repeat apply TW.seq
       refine rk [1,2,9,11,70] [] (f3 hh (decide_eq_false c10) (f3 (decide_eq_false c11) (decide_eq_false c12) (f2 (decide_eq_false c13) (decide_eq_false c14)))) ?_
       clear hh h
       intro h hh
       cases H1
       exact ce hh ⟨kq hh,rfl⟩
      repeat apply TW.seq
      refine rk [1,2,9,11,70] [] (f3 hh (decide_eq_false c10) (f3 (decide_eq_false c11) (decide_eq_false c12) (f2 (decide_eq_false c13) (decide_eq_true c14)))) ?_
      clear hh h
      intro h hh
      cases H1
      exact ce hh ⟨kq hh,rfl⟩
     repeat apply TW.seq
     refine rk [1,2,9,11,70] [] (f3 hh (decide_eq_false c10) (f3 (decide_eq_false c11) (decide_eq_false c12) (decide_eq_true c13))) ?_
     clear hh h
     intro h hh
     cases H1
     exact ce hh ⟨kq hh,rfl⟩
    repeat apply TW.seq
    refine rk [1,2,9,11,70] [] (f3 hh (decide_eq_false c10) (f2 (decide_eq_false c11) (decide_eq_true c12))) ?_
    clear hh h
    intro h hh
    cases H1
    exact ce hh ⟨kq hh,rfl⟩
   repeat apply TW.seq
   refine rk [1,2,9,11,70] [] (f3 hh (decide_eq_false c10) (decide_eq_true c11)) ?_
   clear hh h
   intro h hh
   cases H1
   exact ce hh ⟨kq hh,rfl⟩
  repeat apply TW.seq
  refine rk [1,2,9,11,70] [] (f2 hh (decide_eq_true c10)) ?_
  clear hh h
  intro h hh
  cases H1
  exact ce hh ⟨kq hh,rfl⟩
 clear hh h
 rintro h bs ⟨hh,rfl⟩
 rcases isb H with ⟨c15,H⟩|⟨c15,H⟩
 rotate_left
 ·skip
  repeat apply TW.seq
  refine cf (f2 hh c15) ?_
  repeat apply TW.seq
  refine sk ?_
  obtain ⟨s_2,H1,H⟩:=bsome H
  repeat apply TW.seq
  refine cu [9,11,15] 4 (fun h bs=>(h 9=.str rSign2.1∧h 11=.int .i64 rVerify.1∧h 15=.bool s_2)∧bs=[.cells true 35 (rDigits.l.map (T.int .i64)),.cells true 35 (rDigits2.l.map (T.int .i64)),.cells true 16 (rPublic.1.l.map (T.int .u8)),.cells true 16 (rPublic2.1.l.map (T.int .u8))]) ?_ ?_
  ·skip
   obtain ⟨g16,H1⟩:=isg H1
   rcases isp H1 with ⟨c17,H1⟩|⟨c17,H1⟩
   rotate_left
   ·skip
    repeat apply TW.seq
    refine rk [9,11,15] [] (f3 hh (decide_eq_false c17) (f2 c15 (arIx rDigits g16))) ?_
    clear hh h
    intro h hh
    cases H1
    exact ce hh ⟨kq hh,rfl⟩
   obtain ⟨g18,H1⟩:=isg H1
   rcases isp H1 with ⟨c19,H1⟩|⟨c19,H1⟩
   rotate_left
   ·skip
    repeat apply TW.seq
    refine rk [9,11,15] [] (f3 hh (decide_eq_true c17) (f3 (decide_eq_false c19) c15 (f2 (arIx rDigits g16) (arIx rDigits g18)))) ?_
    clear hh h
    intro h hh
    cases H1
    exact ce hh ⟨kq hh,rfl⟩
   obtain ⟨g20,H1⟩:=isg H1
   rcases isp H1 with ⟨c21,H1⟩|⟨c21,H1⟩
   rotate_left
   ·skip
    repeat apply TW.seq
    refine rk [9,11,15] [] (f3 hh (decide_eq_true c17) (f3 (decide_eq_true c19) (decide_eq_false c21) (f3 c15 (arIx rDigits g16) (f2 (arIx rDigits g18) (arIx rDigits g20))))) ?_
    clear hh h
    intro h hh
    cases H1
    exact ce hh ⟨kq hh,rfl⟩
   obtain ⟨g22,H1⟩:=isg H1
   rcases isp H1 with ⟨c23,H1⟩|⟨c23,H1⟩
   rotate_left
   ·skip
    repeat apply TW.seq
    refine rk [9,11,15] [] (f3 hh (decide_eq_true c17) (f3 (decide_eq_true c19) (decide_eq_true c21) (f3 (decide_eq_false c23) c15 (f3 (arIx rDigits g16) (arIx rDigits g18) (f2 (arIx rDigits g20) (arIx rDigits g22)))))) ?_
    clear hh h
    intro h hh
    cases H1
    exact ce hh ⟨kq hh,rfl⟩
   obtain ⟨g24,H1⟩:=isg H1
   rcases isp H1 with ⟨c25,H1⟩|⟨c25,H1⟩
   rotate_left
   ·skip
    repeat apply TW.seq
    refine rk [9,11,15] [] (f3 hh (decide_eq_true c17) (f3 (decide_eq_true c19) (decide_eq_true c21) (f3 (decide_eq_true c23) (decide_eq_false c25) (f3 c15 (arIx rDigits g16) (f3 (arIx rDigits g18) (arIx rDigits g20) (f2 (arIx rDigits g22) (arIx rDigits g24))))))) ?_
    clear hh h
    intro h hh
    cases H1
    exact ce hh ⟨kq hh,rfl⟩
   rcases isp H1 with ⟨c26,H1⟩|⟨c26,H1⟩
   rotate_left
   ·skip
    repeat apply TW.seq
    refine rk [9,11,15] [] (f3 hh (decide_eq_true c17) (f3 (decide_eq_true c19) (decide_eq_true c21) (f3 (decide_eq_true c23) (decide_eq_true c25) (f3 (decide_eq_false c26) c15 (f3 (arIx rDigits g16) (arIx rDigits g18) (f3 (arIx rDigits g20) (arIx rDigits g22) (f2 (arIx rDigits g24) (arIx rDigits2 g16)))))))) ?_
    clear hh h
    intro h hh
    cases H1
    exact ce hh ⟨kq hh,rfl⟩
   obtain ⟨g27,H1⟩:=isg H1
   rcases isp H1 with ⟨c28,H1⟩|⟨c28,H1⟩
   rotate_left
   ·skip
    repeat apply TW.seq
    refine rk [9,11,15] [] (f3 hh (decide_eq_true c17) (f3 (decide_eq_true c19) (decide_eq_true c21) (f3 (decide_eq_true c23) (decide_eq_true c25) (f3 (decide_eq_true c26) (decide_eq_false c28) (f3 c15 (arIx rDigits g16) (f3 (arIx rDigits g18) (arIx rDigits g20) (f3 (arIx rDigits g22) (arIx rDigits g24) (f2 (arIx rDigits2 g16) (arIx rDigits2 g27))))))))) ?_
    clear hh h
    intro h hh
    cases H1
    exact ce hh ⟨kq hh,rfl⟩
   obtain ⟨g29,H1⟩:=isg H1
   rcases isp H1 with ⟨c30,H1⟩|⟨c30,H1⟩
   rotate_left
   ·skip
    repeat apply TW.seq
    refine rk [9,11,15] [] (f3 hh (decide_eq_true c17) (f3 (decide_eq_true c19) (decide_eq_true c21) (f3 (decide_eq_true c23) (decide_eq_true c25) (f3 (decide_eq_true c26) (decide_eq_true c28) (f3 (decide_eq_false c30) c15 (f3 (arIx rDigits g16) (arIx rDigits g18) (f3 (arIx rDigits g20) (arIx rDigits g22) (f3 (arIx rDigits g24) (arIx rDigits2 g16) (f2 (arIx rDigits2 g27) (arIx rDigits2 g29)))))))))) ?_
    clear hh h
    intro h hh
    cases H1
    exact ce hh ⟨kq hh,rfl⟩
   obtain ⟨g31,H1⟩:=isg H1
   rcases isp H1 with ⟨c32,H1⟩|⟨c32,H1⟩
   rotate_left
   ·skip
    repeat apply TW.seq
    refine rk [9,11,15] [] (f3 hh (decide_eq_true c17) (f3 (decide_eq_true c19) (decide_eq_true c21) (f3 (decide_eq_true c23) (decide_eq_true c25) (f3 (decide_eq_true c26) (decide_eq_true c28) (f3 (decide_eq_true c30) (decide_eq_false c32) (f3 c15 (arIx rDigits g16) (f3 (arIx rDigits g18) (arIx rDigits g20) (f3 (arIx rDigits g22) (arIx rDigits g24) (f3 (arIx rDigits2 g16) (arIx rDigits2 g27) (f2 (arIx rDigits2 g29) (arIx rDigits2 g31))))))))))) ?_
    clear hh h
    intro h hh
    cases H1
    exact ce hh ⟨kq hh,rfl⟩
   rcases isp H1 with ⟨c33,H1⟩|⟨c33,H1⟩
   rotate_left
   ·skip
    repeat apply TW.seq
    refine rk [9,11,15] [] (f3 hh (decide_eq_true c17) (f3 (decide_eq_true c19) (decide_eq_true c21) (f3 (decide_eq_true c23) (decide_eq_true c25) (f3 (decide_eq_true c26) (decide_eq_true c28) (f3 (decide_eq_true c30) (decide_eq_true c32) (f3 (decide_eq_false c33) c15 (f3 (arIx rDigits g16) (arIx rDigits g18) (f3 (arIx rDigits g20) (arIx rDigits g22) (f3 (arIx rDigits g24) (arIx rDigits2 g16) (f3 (arIx rDigits2 g27) (arIx rDigits2 g29) (f2 (arIx rDigits2 g31) (arIx rDigits2 g20)))))))))))) ?_
    clear hh h
    intro h hh
    cases H1
    exact ce hh ⟨kq hh,rfl⟩
   rcases isp H1 with ⟨c34,H1⟩|⟨c34,H1⟩
   rotate_left
   ·skip
    repeat apply TW.seq
    refine rk [9,11,15] [] (f3 hh (decide_eq_true c17) (f3 (decide_eq_true c19) (decide_eq_true c21) (f3 (decide_eq_true c23) (decide_eq_true c25) (f3 (decide_eq_true c26) (decide_eq_true c28) (f3 (decide_eq_true c30) (decide_eq_true c32) (f3 (decide_eq_true c33) (decide_eq_false c34) (f3 c15 (arIx rDigits g16) (f3 (arIx rDigits g18) (arIx rDigits g20) (f3 (arIx rDigits g22) (arIx rDigits g24) (f3 (arIx rDigits2 g16) (arIx rDigits2 g27) (f3 (arIx rDigits2 g29) (arIx rDigits2 g31) (f2 (arIx rDigits2 g20) (arIx rDigits2 g22))))))))))))) ?_
    clear hh h
    intro h hh
    cases H1
    exact ce hh ⟨kq hh,rfl⟩
   repeat apply TW.seq
   refine rk [9,11,15] [] (f3 hh (decide_eq_true c17) (f3 (decide_eq_true c19) (decide_eq_true c21) (f3 (decide_eq_true c23) (decide_eq_true c25) (f3 (decide_eq_true c26) (decide_eq_true c28) (f3 (decide_eq_true c30) (decide_eq_true c32) (f3 (decide_eq_true c33) (decide_eq_true c34) (f3 c15 (arIx rDigits g16) (f3 (arIx rDigits g18) (arIx rDigits g20) (f3 (arIx rDigits g22) (arIx rDigits g24) (f3 (arIx rDigits2 g16) (arIx rDigits2 g27) (f3 (arIx rDigits2 g29) (arIx rDigits2 g31) (f3 (arIx rDigits2 g20) (arIx rDigits2 g22) (arIx rDigits2 g24))))))))))))) ?_
   clear hh h
   intro h hh
   cases H1
   exact ce hh ⟨kq hh,rfl⟩
  clear hh h
  rintro h bs ⟨hh,rfl⟩
  rcases isb H with ⟨c35,H⟩|⟨c35,H⟩
  rotate_left
  ·skip
   repeat apply TW.seq
   refine rk [0] [] (f3 hh c35 c15) ?_
   clear hh h
   intro h hh
   cases H
   exact rt hh
  rcases isp H with ⟨c36,H⟩|⟨c36,H⟩
  rotate_left
  ·skip
   repeat apply TW.seq
   refine rk [0] [] (f3 hh c35 (f2 (decide_eq_false c36) c15)) ?_
   clear hh h
   intro h hh
   cases H
   exact rt hh
  obtain ⟨rCount,e37,H⟩:=bsome H
  rcases isp H with ⟨c38,H⟩|⟨c38,H⟩
  rotate_left
  ·skip
   repeat apply TW.seq
   refine rkc [0] [] [(.int .i64 rCount,stL [.cells true 35 (rDigits.l.map (T.int .i64)),.cells true 35 (rDigits2.l.map (T.int .i64)),.cells true 16 (rPublic.1.l.map (T.int .u8)),.cells true 16 (rPublic2.1.l.map (T.int .u8))])] (f3 hh c35 (f3 (decide_eq_true c36) (decide_eq_false c38) c15)) ?_ ?_
   ·exact ⟨Call0.call (Pure.clr (ssign_Count_ok ax hx k 3 rCount e37 ) (by first|rfl|simp only [c15,c35])),trivial⟩
   clear hh h
   intro h hh
   cases H
   exact rt hh
  obtain ⟨rSize,e39,H⟩:=bsome H
  rcases isp H with ⟨c40,H⟩|⟨c40,H⟩
  rotate_left
  ·skip
   repeat apply TW.seq
   refine rkc [0] [] [(.int .i64 rCount,stL [.cells true 35 (rDigits.l.map (T.int .i64)),.cells true 35 (rDigits2.l.map (T.int .i64)),.cells true 16 (rPublic.1.l.map (T.int .u8)),.cells true 16 (rPublic2.1.l.map (T.int .u8))]),(.int .i64 rSize,stL [.cells true 35 (rDigits.l.map (T.int .i64)),.cells true 35 (rDigits2.l.map (T.int .i64)),.cells true 16 (rPublic.1.l.map (T.int .u8)),.cells true 16 (rPublic2.1.l.map (T.int .u8))])] (f3 hh c35 (f3 (decide_eq_true c36) (decide_eq_true c38) (f2 (decide_eq_false c40) c15))) ?_ ?_
   ·exact ⟨Call0.call (Pure.clr (ssign_Count_ok ax hx k 3 rCount e37 ) (by first|rfl|simp only [c15,c35])),Call0.call (Pure.clr (ssign_Size_ok ax hx k 2 3 rSize e39 ) (by first|rfl|simp only [c15,c35])),trivial⟩
   clear hh h
   intro h hh
   cases H
   exact rt hh
  obtain ⟨rSize2,e41,H⟩:=bsome H
  repeat apply TW.seq
  refine rkc [0] [] [(.int .i64 rCount,stL [.cells true 35 (rDigits.l.map (T.int .i64)),.cells true 35 (rDigits2.l.map (T.int .i64)),.cells true 16 (rPublic.1.l.map (T.int .u8)),.cells true 16 (rPublic2.1.l.map (T.int .u8))]),(.int .i64 rSize,stL [.cells true 35 (rDigits.l.map (T.int .i64)),.cells true 35 (rDigits2.l.map (T.int .i64)),.cells true 16 (rPublic.1.l.map (T.int .u8)),.cells true 16 (rPublic2.1.l.map (T.int .u8))]),(.int .i64 rSize2,stL [.cells true 35 (rDigits.l.map (T.int .i64)),.cells true 35 (rDigits2.l.map (T.int .i64)),.cells true 16 (rPublic.1.l.map (T.int .u8)),.cells true 16 (rPublic2.1.l.map (T.int .u8))])] (f3 hh c35 (f3 (decide_eq_true c36) (decide_eq_true c38) (f2 (decide_eq_true c40) c15))) ?_ ?_
  ·exact ⟨Call0.call (Pure.clr (ssign_Count_ok ax hx k 3 rCount e37 ) (by first|rfl|simp only [c15,c35])),Call0.call (Pure.clr (ssign_Size_ok ax hx k 2 3 rSize e39 ) (by first|rfl|simp only [c15,c35])),Call0.call (Pure.clr (ssign_Size_ok ax hx k 0 0 rSize2 e41 ) (by first|rfl|simp only [c15,c35])),trivial⟩
  clear hh h
  intro h hh
  cases H
  exact rt hh
 repeat apply TW.seq
 refine ct (f2 hh c15) ?_
 repeat apply TW.seq
 refine rk [0] [] (f2 hh c15) ?_
 clear hh h
 intro h hh
 cases H
 exact rt hh
end Go.Proofs.YtcgdomhednbdpaaDoor
namespace Go.Proofs.YtcgdomhednbdpaaDoor
open Go Go.RowKit
set_option maxRecDepth 100000
def dgN (d:Ar 16) (j:Nat):Nat:=(gx (digA d).l (j:Int)).toNat
theorem dgN_le {d:Ar 16} (hd:Byt d) {j:Nat} (hj:j<35):dgN d j≤15∧gx (digA d).l (j:Int)=(dgN d j:Int):=by
  have:=digA_rng hd hj
  unfold dgN
  omega
theorem byt_of {n:Nat} (d:Ar n) (h:∀ x∈d.l,0≤x∧x<256):Byt d:=by
  intro j hj
  rw [gx_nat,List.getD_eq_getElem?_getD,List.getElem?_eq_getElem (by rw [d.h];exact hj)]
  exact h _ (List.getElem_mem _)
theorem ofD_byt (t:Int) (ps:List ByteArray):∀ x∈(ofD t ps).l,0≤x∧x<256:=by
  intro x hx
  rw [ofD_l] at hx
  obtain ⟨c,_,rfl⟩:=List.mem_map.1 hx
  have:=c.toNat_lt
  omega
theorem bytL_byt (s:ByteArray):∀ x∈bytL s,0≤x∧x<256:=by
  intro x hx
  unfold bytL at hx
  obtain ⟨c,_,rfl⟩:=List.mem_map.1 hx
  have:=c.toNat_lt
  omega
theorem cpA_byt (s:ByteArray):∀ x∈(cpA (zA 16) s).l,0≤x∧x<256:=by
  intro x hx
  unfold cpA at hx
  rcases List.mem_append.1 hx with h|h
  · exact bytL_byt s x (List.mem_of_mem_take h)
  · have:=List.eq_of_mem_replicate (List.mem_of_mem_drop h)
    rw [this];omega
theorem climbF_byt (i j:Nat):∀ (n t:Nat) (v:Dg),(∀ x∈v.l,0≤x∧x<256)→∀ x∈(climbF i j t n v).l,0≤x∧x<256
  |0,t,v,h=>h
  |n+1,t,v,h=>climbF_byt i j n (t+1) (stp i j t v) (ofD_byt _ _)
theorem valF_byt (seed:ByteArray):∀ (l n:Nat),∀ x∈(valF seed l n).l,0≤x∧x<256
  |0,n=>ofD_byt _ _
  |l+1,n=>ofD_byt _ _
theorem u8o_back {x:Int} (h:0≤x∧x<256):((u8o x).toNat:Int)=x:=by
  unfold u8o
  rw [UInt8.toNat_ofNat']
  omega
theorem bytL_strL:∀ {l:List Int},(∀ x∈l,0≤x∧x<256)→bytL (strL l)=l:=by
  intro l h
  unfold bytL strL
  simp only [List.map_map]
  have:∀ (l:List Int),(∀ x∈l,0≤x∧x<256)→l.map ((fun c:UInt8=>(c.toNat:Int)) ∘ u8o)=l:=by
    intro l
    induction l with
    |nil=>intro _;rfl
    |cons x l ih =>
      intro h
      rw [List.map_cons,ih fun y hy=>h y (.tail _ hy)]
      show ((u8o x).toNat:Int) :: l=_
      rw [u8o_back (h x (.head _))]
  exact this l h
theorem sib64:∀ (i:_root_.Fin 64) (l:_root_.Fin 7),IntKind.i64.wrap (((BitVec.ofInt IntKind.i64.bits (((i.val:Nat):Int).fdiv (2 ^ (min ((l.val:Nat):Int).toNat IntKind.i64.bits))) ^^^ BitVec.ofInt IntKind.i64.bits 1).toNat:Int))=(((if (i.val / 2 ^ l.val) % 2=0 then i.val / 2 ^ l.val+1 else i.val / 2 ^ l.val - 1):Nat):Int):=by decide +kernel
theorem odd64:∀ (i:_root_.Fin 64) (l:_root_.Fin 7),IntKind.i64.wrap (((BitVec.ofInt IntKind.i64.bits (((i.val:Nat):Int).fdiv (2 ^ (min ((l.val:Nat):Int).toNat IntKind.i64.bits))) &&& BitVec.ofInt IntKind.i64.bits 1).toNat:Int))=(((i.val / 2 ^ l.val) % 2:Nat):Int):=by decide +kernel
theorem shr64':∀ (i:_root_.Fin 64) (l:_root_.Fin 7),((i.val:Nat):Int).fdiv (2 ^ (min (((l.val+1:Nat):Int)).toNat IntKind.i64.bits))=((i.val / 2 ^ (l.val+1):Nat):Int):=by decide +kernel
def sib (i l:Nat):Nat:=if (i / 2 ^ l) % 2=0 then i / 2 ^ l+1 else i / 2 ^ l - 1
theorem sib_lt:∀ (h:_root_.Fin 7) (i:_root_.Fin 64) (l:_root_.Fin 7),i.val<2 ^ h.val→l.val<h.val→sib i.val l.val<2 ^ (h.val - l.val):=by decide +kernel
def sgB (seed:ByteArray) (i:Nat) (D:Ar 16) (j:Nat):Dg:=if j<35 then climbF i j 1 (dgN D j) (startF seed i j) else valF seed (j - 35) (sib i (j - 35))
theorem sgB_byt (seed:ByteArray) (i:Nat) (D:Ar 16) (j:Nat):∀ x∈(sgB seed i D j).l,0≤x∧x<256:=by
  unfold sgB
  split
  · exact climbF_byt _ _ _ _ _ (cpA_byt _)
  · exact valF_byt _ _ _
def sgL (B:Nat→Dg) (i n:Nat):List Int:=[2*(i:Int)]++catL (fun j=>(B j).l) 0 n
theorem sign_L0 (k:Nat) {seed:ByteArray} (hs:seed.size≤4000) {i:Nat} (hi:i<64) (D:Ar 16) (hD:Byt D):∀ (n j m:Nat) (a:List Int) (c:Nat),j+n=35→n<m→c≤10+16*j→ssign_Sign_L0 (k+100) seed (i:Int) (digA D) m (j:Int) a c=some (a++catL (fun j=>(sgB seed i D j).l) j n,c+16*n)
  |0,j,m+1,a,c,h1,h2,h3=>by
    rw [ssign_Sign_L0,if_neg (by omega)]
    simp [catL]
  |n+1,j,m+1,a,c,h1,h2,h3=>by
    have hd:=dgN_le hD (show j<35 by omega)
    rw [ssign_Sign_L0,if_pos (by omega),if_pos (by omega),start_eq (k+90) hs hi (by omega)]
    simp only [Option.bind_some]
    have e:=climb_eq (k+70) hi (show j<64 by omega) (fr:=0) (Nat.zero_le _) hd.1 (startF seed i j)
    rw [show ((0:Nat):Int)=0 from rfl,Nat.zero_add,Nat.sub_zero] at e
    rw [hd.2,e]
    simp only [Option.bind_some]
    rw [if_pos (by omega),wi (by omega)]
    have eB:sgB seed i D j=climbF i j 1 (dgN D j) (startF seed i j):=if_pos (by omega)
    have:=sign_L0 k hs hi D hD n (j+1) m (a++(climbF i j 1 (dgN D j) (startF seed i j)).l) (c+16) (by omega) (by omega) (by omega)
    rw [show ((j:Int)+1)=((j+1:Nat):Int) by omega,this]
    show some (a++_++catL _ (j+1) n,_)=some (a++((sgB seed i D j).l++catL _ (j+1) n),_)
    rw [List.append_assoc,eB,show c+16+16*n=c+16*(n+1) by omega]
theorem sign_L1 (k:Nat) (seed:ByteArray) {h i:Nat} (hh:h≤6) (hi:i<2 ^ h) (D:Ar 16):∀ (n l m:Nat) (a:List Int) (c:Nat),l+n=h→n<m→c≤1000+16*l→ssign_Sign_L1 k (h:Int) (i:Int) (mapR (levF seed h) 0 (h+1)) m (l:Int) a c=some (a++catL (fun j=>(sgB seed i D j).l) (35+l) n,c+16*n)
  |0,l,m+1,a,c,h1,h2,h3=>by
    rw [ssign_Sign_L1,if_neg (by omega)]
    simp [catL]
  |n+1,l,m+1,a,c,h1,h2,h3=>by
    have hp:=pow_le6 hh
    have e:=sib64 ⟨i,by omega⟩ ⟨l,by omega⟩
    simp only at e
    have es:(((if i / 2 ^ l % 2=0 then i / 2 ^ l+1 else i / 2 ^ l - 1):Nat):Int)=(sib i l:Int):=rfl
    rw [es] at e
    have hlt:=sib_lt ⟨h,by omega⟩ ⟨i,by omega⟩ ⟨l,by omega⟩ hi (by simp only;omega)
    simp only at hlt
    have g1:=mapR_get (levF seed h) (h+1) 0 l (by omega)
    rw [Nat.zero_add] at g1
    have g2:=mapR_get (valF seed l) (2 ^ (h - l)) 0 (sib i l) hlt
    rw [Nat.zero_add] at g2
    have hlen:(levF seed h l).length=2 ^ (h - l):=mapR_len _ _ _
    rw [ssign_Sign_L1,if_pos (by omega),if_pos (by rw [mapR_len];omega),if_pos (by omega),e,g1,if_pos (by rw [hlen];omega),if_pos (by omega),wi (by omega)]
    have eB:sgB seed i D (35+l)=valF seed l (sib i l):=by
      unfold sgB
      rw [if_neg (by omega),show 35+l - 35=l by omega]
    unfold levF
    rw [g2]
    have:=sign_L1 k seed hh hi D n (l+1) m (a++(valF seed l (sib i l)).l) (c+16) (by omega) (by omega) (by omega)
    unfold levF at this
    rw [show ((l:Int)+1)=((l+1:Nat):Int) by omega,this]
    show some (a++_++catL _ (35+(l+1)) n,_)=some (a++((sgB seed i D (35+l)).l++catL _ (35+l+1) n),_)
    rw [List.append_assoc,eB,show c+16+16*n=c+16*(n+1) by omega]
    rfl
theorem catL_app (f:Nat→List Int):∀ (a i b:Nat),catL f i a++catL f (i+a) b=catL f i (a+b)
  |0,i,b=>by rw [Nat.zero_add];rfl
  |a+1,i,b=>by
    rw [show a+1+b=(a+b)+1 by omega]
    show (f i++catL f (i+1) a)++_=f i++catL f (i+1) (a+b)
    rw [List.append_assoc,show i+(a+1)=i+1+a by omega,catL_app f a (i+1) b]
def mdF (seed:ByteArray) (h i:Nat) (m:ByteArray):Dg:=msgF (valF seed h 0) i m
theorem msgF_byt (p:Dg) (i:Nat) (m:ByteArray):Byt (msgF p i m):=byt_of _ (ofD_byt _ _)
theorem sign_eq (k:Nat) {seed m:ByteArray} (hs:seed.size≤4000) (hm:m.size≤4000) {h i:Nat} (hh:h≤6) (hi:i<2 ^ h):ssign_Sign (k+100) seed (h:Int) (i:Int) m=some (strL (sgL (sgB seed i (mdF seed h i m)) i (35+h)),0):=by
  have hp:=pow_le6 hh
  have hM:Byt (mdF seed h i m):=msgF_byt _ _ _
  unfold ssign_Sign
  rw [count_eq _ h hh]
  simp only [Option.bind_some]
  rw [if_neg (by omega),if_neg (by omega)]
  simp only [Option.bind_some]
  rw [if_neg (by rw [decide_eq_true_eq];omega),tree_eq k hs hh]
  simp only [Option.bind_some]
  rw [intb_small (k+99) (by omega)]
  simp only [Option.bind_some]
  rw [if_pos (by rw [mapR_len];omega),lev_top,if_pos (by simp)]
  rw [show gx [valF seed h 0] 0=valF seed h 0 from rfl,msg_eq (k+99) _ (by omega) hm]
  simp only [Option.bind_some]
  rw [show msgF (valF seed h 0) i m=mdF seed h i m from rfl,digits_eq (k+80) _ hM]
  simp only [Option.bind_some]
  have e0:=sign_L0 k hs (show i<64 by omega) (mdF seed h i m) hM 35 0 (k+100) [2*(i:Int)] 1 (by omega) (by omega) (by omega)
  rw [show ((0:Nat):Int)=0 from rfl] at e0
  rw [e0]
  simp only [Option.bind_some]
  have e1:=sign_L1 (k+100) seed hh hi (mdF seed h i m) h 0 (k+100) ([2*(i:Int)]++catL (fun j=>(sgB seed i (mdF seed h i m) j).l) 0 35) (1+16*35) (by omega) (by omega) (by omega)
  rw [show ((0:Nat):Int)=0 from rfl,Nat.add_zero] at e1
  rw [e1]
  simp only [Option.bind_some]
  have ec:=catL_app (fun j=>(sgB seed i (mdF seed h i m) j).l) 35 0 h
  rw [Nat.zero_add] at ec
  rw [if_pos (by
    rw [List.append_assoc,ec,List.length_append,catL_len _ 16 _ _ fun j _ _=>(sgB seed i (mdF seed h i m) j).h]
    simp only [List.length_cons,List.length_nil];omega),List.append_assoc,ec]
  rfl
theorem sign_spent (k:Nat) (seed m:ByteArray) {h:Nat} (hh:h≤6) {i:Int} (hi:i<0∨((2 ^ h:Nat):Int)≤i):ssign_Sign k seed (h:Int) i m=some (⟨#[]⟩,14):=by
  have hp:=pow_le6 hh
  unfold ssign_Sign
  rw [count_eq _ h hh]
  simp only [Option.bind_some]
  rw [if_neg (by omega)]
  by_cases h0:i<0
  · rw [if_pos h0];rfl
  · rw [if_neg h0]
    simp only [Option.bind_some]
    rw [if_pos (by rw [decide_eq_true_eq];omega)]
theorem size_eq (k:Nat) {h i:Nat} (hh:h≤6) (hi:i<2 ^ h):ssign_Size (k+1) (h:Int) (i:Int)=some (1+16*(35+(h:Int))):=by
  have hp:=pow_le6 hh
  unfold ssign_Size
  rw [if_neg (by omega),count_eq _ h hh]
  simp only [Option.bind_some]
  rw [if_neg (by rw [decide_eq_true_eq];omega),int_small k (by omega)]
  simp only [Option.bind_some]
  rw [wi (show _∧35+(h:Int)≤_ by omega),wi (show _∧16*(35+(h:Int))≤_ by omega)]
  simp only [List.length_cons,List.length_nil]
  rw [wi (by omega)]
  congr 1
theorem get64:∀ (i:_root_.Fin 64),IntKind.u64.wrap (((BitVec.ofInt IntKind.u64.bits 0 ||| BitVec.ofInt IntKind.u64.bits (IntKind.u64.wrap ((IntKind.u64.wrap (IntKind.u8.wrap (((BitVec.ofInt IntKind.u8.bits (2*((i.val:Nat):Int)) &&& BitVec.ofInt IntKind.u8.bits 127).toNat:Int))))*2 ^ (min (0:Int).toNat IntKind.u64.bits)))).toNat:Int))=2*((i.val:Nat):Int):=by decide +kernel
theorem zag64:∀ (i:_root_.Fin 64),IntKind.i64.wrap (((BitVec.ofInt IntKind.i64.bits (IntKind.i64.wrap ((2*((i.val:Nat):Int)).fdiv (2 ^ (min (1:Int).toNat IntKind.u64.bits)))) ^^^ BitVec.ofInt IntKind.i64.bits (IntKind.i64.wrap (0 - (IntKind.i64.wrap (IntKind.u64.wrap (((BitVec.ofInt IntKind.u64.bits (2*((i.val:Nat):Int)) &&& BitVec.ofInt IntKind.u64.bits 1).toNat:Int))))))).toNat:Int))=((i.val:Nat):Int):=by decide +kernel
theorem getint_one (k:Nat) {i:Nat} (hi:i<64) (r:List Int):swire_GetInt (k+1) (2*(i:Int) :: r)=some ((i:Int),1,0):=by
  unfold swire_GetInt
  rw [swire_GetInt_L0,if_pos (by simp only [List.length_cons];omega),if_pos (by simp only [List.length_cons];omega),if_neg (by omega)]
  simp only [Option.bind_some]
  rw [if_neg (by simp),if_neg (by omega)]
  simp only [Option.bind_some]
  rw [if_neg (by simp),show IntKind.i64.wrap (7*0)=0 from rfl,if_pos (by omega),show gx (2*(i:Int) :: r) 0=2*(i:Int) from rfl,if_pos (by omega),get64 ⟨i,hi⟩]
  simp only [Option.bind_some,Sum.elim_inr]
  rw [wi (show _∧(0:Int)+1≤_ by omega),if_neg (by omega),if_pos (by omega),zag64 ⟨i,hi⟩]
  rfl
theorem getint_nil (k:Nat):swire_GetInt (k+1) []=some (0,0,5):=by
  unfold swire_GetInt
  rw [swire_GetInt_L0,if_neg (by simp)]
  rfl
end Go.Proofs.YtcgdomhednbdpaaDoor
namespace Go.Proofs.YtcgdomhednbdpaaDoor
open Go Go.RowKit
set_option maxRecDepth 100000
theorem bytL_extract (s:ByteArray) (a b:Nat):bytL (s.extract a b)=((bytL s).drop a).take (b - a):=by
  unfold bytL
  rw [ByteArray.data_extract,Array.toList_extract,List.extract_eq_take_drop,List.map_take,List.map_drop]
theorem bytL_append (s t:ByteArray):bytL (s++t)=bytL s++bytL t:=by
  unfold bytL
  rw [ByteArray.data_append,Array.toList_append,List.map_append]
theorem size_append (s t:ByteArray):(s++t).size=s.size+t.size:=ByteArray.size_append
def blkA (S:List Int) (o:Nat):Dg:=mkAr 16 ((S.drop o).take 16)
theorem blkA_l {S:List Int} {o:Nat} (h:o+16≤S.length):(blkA S o).l=(S.drop o).take 16:=mkAr_l (by rw [List.length_take,List.length_drop];omega)
theorem cp_blk (s:ByteArray) {o:Nat} (h:o+16≤s.size):cpA (zA 16) (s.extract o s.size)=blkA (bytL s) o:=by
  apply Ar.ext'
  rw [blkA_l (by rw [bytL_len];exact h)]
  have hs:(s.extract o s.size).size=s.size - o:=by
    rw [← bytL_len,bytL_extract,List.length_take,List.length_drop,bytL_len];omega
  show (bytL (s.extract o s.size)).take (min (s.extract o s.size).size 16)++(zA 16).l.drop (min (s.extract o s.size).size 16)=_
  rw [hs,Nat.min_eq_right (by omega),bytL_extract,List.drop_of_length_le (show (zA 16).l.length≤16 by rw [(zA 16).h];omega),List.append_nil,List.take_take,Nat.min_eq_left (by omega)]
theorem ver1_eq (k:Nat) (s:ByteArray) {y:Nat} (hs:s.size≤1000000000) (h:1+16*y+16≤s.size):ssign_Verify_1 k (y:Int) s 1=some (blkA (bytL s) (1+16*y)):=by
  unfold ssign_Verify_1
  rw [wi (show _∧(y:Int)*16≤_ by omega),wi (show _∧1+(y:Int)*16≤_ by omega),if_pos (by omega)]
  unfold ssign_digest
  simp only [Option.bind_some]
  rw [show (1+(y:Int)*16).toNat=1+16*y by omega,cp_blk s (by omega)]
def rtL (i:Nat) (B:Nat→Dg):Nat→Nat→Dg→Dg
  |_,0,v=>v
  |l,n+1,v=>rtL i B (l+1) n (if (i / 2 ^ l) % 2=1 then joinF (l+1) (i / 2 ^ (l+1)) (B (35+l)) v else joinF (l+1) (i / 2 ^ (l+1)) v (B (35+l)))
theorem ver_L0 (k:Nat) (s:ByteArray) {h i:Nat} (hh:h≤6) (hi:i<64) (hs:s.size=1+16*(35+h)):∀ (n l m:Nat) (v:Dg),l+n=h→n<m→ssign_Verify_L0 (k+10) (h:Int) s ((i:Int),1,0) m (l:Int) v=some (rtL i (fun j=>blkA (bytL s) (1+16*j)) l n v)
  |0,l,m+1,v,h1,h2=>by
    rw [ssign_Verify_L0,if_neg (by omega)];rfl
  |n+1,l,m+1,v,h1,h2=>by
    have e:=odd64 ⟨i,hi⟩ ⟨l,by omega⟩
    have e2:=shr64' ⟨i,hi⟩ ⟨l,by omega⟩
    simp only at e e2
    have hq:i / 2 ^ (l+1)<64:=Nat.lt_of_le_of_lt (Nat.div_le_self _ _) hi
    have ev:=ver1_eq (k+10) s (y:=35+l) (by omega) (by omega)
    rw [show ((35+l:Nat):Int)=35+(l:Int) by omega] at ev
    rw [ssign_Verify_L0,if_pos (by omega),wi (show _∧35+(l:Int)≤_ by omega),ev]
    simp only [Option.bind_some]
    rw [if_pos (by omega),e,wi (show _∧(l:Int)+1≤_ by omega),show ((l:Int)+1)=((l+1:Nat):Int) by omega,e2]
    show _=some (rtL i _ (l+1) n (if (i / 2 ^ l) % 2=1 then _ else _))
    by_cases hb:i / 2 ^ l % 2=1
    · rw [if_pos (by omega),if_pos (by omega),if_pos hb,join_eq k (by omega) hq]
      simp only [Option.bind_some]
      exact ver_L0 k s hh hi hs n (l+1) m _ (by omega) (by omega)
    · rw [if_neg (by omega),if_pos (by omega),if_neg hb,join_eq k (by omega) hq]
      simp only [Option.bind_some]
      exact ver_L0 k s hh hi hs n (l+1) m _ (by omega) (by omega)
def rootF (P:Dg) (h i:Nat) (m:ByteArray) (B:Nat→Dg):Dg:=rtL i B 0 h (leafF fun j=>climbF i j (dgN (msgF P i m) j+1) (15 - dgN (msgF P i m) j) (B j))
theorem verify_root (k : Nat) (P : Dg) {m s : ByteArray} (hm : m.size ≤ 4000) {h i : Nat} (hh : h ≤ 6) (hi : i < 2 ^ h) (hs : s.size = 1 + 16 * (35 + h)) {r : List Int} (hr : bytL s = 2 * (i : Int) :: r) :
    ssign_Verify (k+100) P (h:Int) m s=some (if rootF P h i m (fun j=>blkA (bytL s) (1+16*j))=P then ((i:Int),0) else (0,8)):=by
  have hp:=pow_le6 hh
  have hi64:i<64:=by omega
  have hM:=msgF_byt P i m
  unfold ssign_Verify
  rw [count_eq _ h hh]
  simp only [Option.bind_some]
  rw [if_neg (by omega),if_pos (by omega)]
  have eg:swire_GetInt (k+100) (bytL s)=some ((i:Int),1,0):=by rw [hr];exact getint_one (k+99) hi64 r
  rw [eg]
  simp only [Option.bind_some]
  rw [size_eq (k+99) hh hi]
  simp only [Option.bind_some]
  rw [if_neg (by simp),if_neg (by omega),if_neg (by omega),if_neg (by omega),msg_eq (k+99) P hi64 hm]
  simp only [Option.bind_some]
  rw [digits_eq (k+80) _ hM]
  simp only [Option.bind_some]
  rw [leaf_eq (k+50) _ (fun j=>climbF i j (dgN (msgF P i m) j+1) (15 - dgN (msgF P i m) j) (blkA (bytL s) (1+16*j))) fun j hj=>?_]
  · simp only [Option.bind_some]
    have e0:=ver_L0 (k+90) s hh hi64 hs h 0 (k+100) (leafF fun j=>climbF i j (dgN (msgF P i m) j+1) (15 - dgN (msgF P i m) j) (blkA (bytL s) (1+16*j))) (by omega) (by omega)
    rw [show ((0:Nat):Int)=0 from rfl] at e0
    rw [e0]
    simp only [Option.bind_some]
    show (if rootF P h i m (fun j=>blkA (bytL s) (1+16*j))=P then some ((i:Int),(0:Int)) else some (0,8))=_
    split<;>rfl
  · have hd:=dgN_le hM hj
    show ssign_Verify_2 (k+50+50) (j:Int) (i:Int) (fun y2=>ssign_Verify_1 (k+100) y2 s 1) (digA (msgF P i m))=_
    unfold ssign_Verify_2
    simp only
    rw [ver1_eq _ s (by omega) (by omega)]
    simp only [Option.bind_some]
    rw [if_pos (by omega),hd.2]
    have:=climb_eq (k+70) hi64 (show j<64 by omega) hd.1 (Nat.le_refl 15) (blkA (bytL s) (1+16*j))
    rw [show ((15:Nat):Int)=15 from rfl] at this
    rw [this]
    rfl
theorem verify_short (k:Nat) (P:Dg) (m:ByteArray) {s:ByteArray} {h i:Nat} (hh:h≤6) (hi:i<2 ^ h) (hs:s.size<1+16*(35+h)) {r:List Int} (hr:bytL s=2*(i:Int) :: r):ssign_Verify (k+100) P (h:Int) m s=some (0,5):=by
  have hp:=pow_le6 hh
  unfold ssign_Verify
  rw [count_eq _ h hh]
  simp only [Option.bind_some]
  rw [if_neg (by omega),if_pos (by omega)]
  have eg:swire_GetInt (k+100) (bytL s)=some ((i:Int),1,0):=by rw [hr];exact getint_one (k+99) (by omega) r
  rw [eg]
  simp only [Option.bind_some]
  rw [size_eq (k+99) hh hi]
  simp only [Option.bind_some]
  rw [if_neg (by simp),if_neg (by omega),if_pos (by omega)]
theorem verify_long (k:Nat) (P:Dg) (m:ByteArray) {s:ByteArray} {h i:Nat} (hh:h≤6) (hi:i<2 ^ h) (hs:1+16*(35+h)<s.size) (hs2:s.size≤1000000000) {r:List Int} (hr:bytL s=2*(i:Int) :: r):ssign_Verify (k+100) P (h:Int) m s=some (0,6):=by
  have hp:=pow_le6 hh
  unfold ssign_Verify
  rw [count_eq _ h hh]
  simp only [Option.bind_some]
  rw [if_neg (by omega),if_pos (by omega)]
  have eg:swire_GetInt (k+100) (bytL s)=some ((i:Int),1,0):=by rw [hr];exact getint_one (k+99) (by omega) r
  rw [eg]
  simp only [Option.bind_some]
  rw [size_eq (k+99) hh hi]
  simp only [Option.bind_some]
  rw [if_neg (by simp),if_neg (by omega),if_neg (by omega),if_pos (by omega)]
theorem verify_nil (k:Nat) (P:Dg) (m:ByteArray) {s:ByteArray} {h:Nat} (hh:h≤6) (hs:s.size=0):ssign_Verify (k+100) P (h:Int) m s=some (0,5):=by
  have hp:=pow_le6 hh
  unfold ssign_Verify
  rw [count_eq _ h hh]
  simp only [Option.bind_some]
  rw [if_neg (by omega),if_pos (by omega)]
  have eg:swire_GetInt (k+100) (bytL s)=some (0,0,5):=by
    have:bytL s=[]:=List.eq_nil_of_length_eq_zero (by rw [bytL_len];exact hs)
    rw [this];exact getint_nil (k+99)
  rw [eg]
  simp only [Option.bind_some]
  have:=size_eq (k+99) hh (show 0<2 ^ h by omega)
  rw [show ((0:Nat):Int)=0 from rfl] at this
  rw [this]
  simp only [Option.bind_some]
  rw [if_pos (by simp)]
theorem catL_get (f:Nat→List Int):∀ (n i j:Nat),(∀ j,i≤j→j<i+n→(f j).length=16)→j<n→((catL f i n).drop (16*j)).take 16=f (i+j)
  |n+1,i,0,h,hj=>by
    show ((f i++catL f (i+1) n).drop 0).take 16=_
    rw [List.drop_zero,List.take_append_of_le_length (by rw [h i (by omega) (by omega)];omega),List.take_of_length_le (by rw [h i (by omega) (by omega)];omega),Nat.add_zero]
  |n+1,i,j+1,h,hj=>by
    have hl:=h i (by omega) (by omega)
    show ((f i++catL f (i+1) n).drop (16*(j+1))).take 16=_
    rw [show 16*(j+1)=(f i).length+16*j by rw [hl];omega,List.drop_append,List.drop_of_length_le (by omega),List.nil_append,Nat.add_sub_cancel_left,catL_get f n (i+1) j (fun q h1 h2=>h q (by omega) (by omega)) (by omega),show i+1+j=i+(j+1) by omega]
theorem sgL_len (B:Nat→Dg) (i n:Nat):(sgL B i n).length=1+16*n:=by
  unfold sgL
  rw [List.length_append,catL_len _ 16 _ _ fun j _ _=>(B j).h];rfl
theorem sgL_byt {B:Nat→Dg} (hB:∀ j,∀ x∈(B j).l,0≤x∧x<256) {i:Nat} (hi:i<64):∀ n,∀ x∈sgL B i n,0≤x∧x<256:=by
  have key:∀ n j,∀ x∈catL (fun j=>(B j).l) j n,0≤x∧x<256:=by
    intro n
    induction n with
    |zero=>intro j x hx;cases hx
    |succ n ih =>
      intro j x hx
      rcases List.mem_append.1 hx with h|h
      · exact hB j x h
      · exact ih _ x h
  intro n x hx
  rcases List.mem_append.1 hx with h|h
  · have:x=2*(i:Int):=by simpa using h
    omega
  · exact key n 0 x h
theorem sgL_blk (B:Nat→Dg) (i n:Nat) {j:Nat} (hj:j<n):blkA (sgL B i n) (1+16*j)=B j:=by
  apply Ar.ext'
  rw [blkA_l (by rw [sgL_len];omega)]
  unfold sgL
  rw [List.drop_append,List.drop_of_length_le (by simp),List.nil_append,show 1+16*j - [2*(i:Int)].length=16*j by simp,catL_get _ _ _ _ (fun q _ _=>(B q).h) hj,Nat.zero_add]
theorem rtL_congr {i:Nat} {B C:Nat→Dg}:∀ (n l:Nat) (v:Dg),(∀ j,l≤j→j<l+n→B (35+j)=C (35+j))→rtL i B l n v=rtL i C l n v
  |0,l,v,h=>rfl
  |n+1,l,v,h=>by
    show rtL i B (l+1) n _=rtL i C (l+1) n _
    rw [h l (by omega) (by omega)]
    exact rtL_congr n (l+1) _ fun j h1 h2=>h j (by omega) (by omega)
theorem rootF_congr {P:Dg} {h i:Nat} {m:ByteArray} {B C:Nat→Dg} (hBC:∀ j,j<35+h→B j=C j):rootF P h i m B=rootF P h i m C:=by
  unfold rootF
  rw [leafF_congr fun j hj=>by rw [hBC j (by omega)]]
  exact rtL_congr h 0 _ fun j _ h2=>hBC (35+j) (by omega)
theorem rtL_val (seed:ByteArray) (i:Nat) (D:Ar 16):∀ (n l:Nat),rtL i (sgB seed i D) l n (valF seed l (i / 2 ^ l))=valF seed (l+n) (i / 2 ^ (l+n))
  |0,l=>rfl
  |n+1,l=>by
    have eB:sgB seed i D (35+l)=valF seed l (sib i l):=by
      unfold sgB
      rw [if_neg (by omega),show 35+l - 35=l by omega]
    have hd:i / 2 ^ (l+1)=(i / 2 ^ l) / 2:=by rw [Nat.pow_succ,Nat.div_div_eq_div_mul]
    have hj:(if (i / 2 ^ l) % 2=1 then joinF (l+1) (i / 2 ^ (l+1)) (sgB seed i D (35+l)) (valF seed l (i / 2 ^ l)) else joinF (l+1) (i / 2 ^ (l+1)) (valF seed l (i / 2 ^ l)) (sgB seed i D (35+l)))=valF seed (l+1) (i / 2 ^ (l+1)):=by
      rw [eB]
      show _=joinF (l+1) (i / 2 ^ (l+1)) (valF seed l (2*(i / 2 ^ (l+1)))) (valF seed l (2*(i / 2 ^ (l+1))+1))
      rw [hd]
      unfold sib
      generalize i / 2 ^ l=q
      by_cases hq:q % 2=1
      · rw [if_pos hq,if_neg (by omega),show q - 1=2*(q / 2) by omega,show valF seed l q=valF seed l (2*(q / 2)+1) by rw [show 2*(q / 2)+1=q by omega]]
      · rw [if_neg hq,if_pos (by omega),show valF seed l q=valF seed l (2*(q / 2)) by rw [show 2*(q / 2)=q by omega],show q+1=2*(q / 2)+1 by omega]
    show rtL i (sgB seed i D) (l+1) n (if _ then _ else _)=_
    rw [hj,rtL_val seed i D n (l+1),show l+1+n=l+(n+1) by omega]
theorem root_made (seed:ByteArray) {h i:Nat} (hi:i<2 ^ h) (m:ByteArray):rootF (valF seed h 0) h i m (sgB seed i (mdF seed h i m))=valF seed h 0:=by
  unfold rootF
  have hM:=msgF_byt (valF seed h 0) i m
  have e:leafF (fun j=>climbF i j (dgN (msgF (valF seed h 0) i m) j+1) (15 - dgN (msgF (valF seed h 0) i m) j) (sgB seed i (mdF seed h i m) j))=valF seed 0 (i / 2 ^ 0):=by
    rw [Nat.pow_zero,Nat.div_one,valF.eq_1]
    unfold lfF
    refine leafF_congr fun j hj=>?_
    have hd:=dgN_le hM hj
    show climbF i j _ _ (if j<35 then _ else _)=climbF i j 1 15 (startF seed i j)
    rw [if_pos hj,show mdF seed h i m=msgF (valF seed h 0) i m from rfl,Nat.add_comm _ 1,climbF_add,show dgN (msgF (valF seed h 0) i m) j+(15 - dgN (msgF (valF seed h 0) i m) j)=15 by omega]
  rw [e,rtL_val,Nat.zero_add,Nat.div_eq_of_lt hi]
def sigS (seed:ByteArray) (h i:Nat) (m:ByteArray):ByteArray:=strL (sgL (sgB seed i (mdF seed h i m)) i (35+h))
theorem sigS_size (seed:ByteArray) (h i:Nat) (m:ByteArray):(sigS seed h i m).size=1+16*(35+h):=by
  unfold sigS
  rw [strL_size,sgL_len]
theorem sigS_bytes (seed:ByteArray) (h:Nat) {i:Nat} (hi:i<64) (m:ByteArray):bytL (sigS seed h i m)=sgL (sgB seed i (mdF seed h i m)) i (35+h):=bytL_strL (sgL_byt (sgB_byt _ _ _) hi _)
theorem verify_made (k:Nat) {seed m:ByteArray} (hm:m.size≤4000) {h i:Nat} (hh:h≤6) (hi:i<2 ^ h):ssign_Verify (k+100) (valF seed h 0) (h:Int) m (sigS seed h i m)=some ((i:Int),0):=by
  have hp:=pow_le6 hh
  have hb:=sigS_bytes seed h (show i<64 by omega) m
  rw [verify_root k (valF seed h 0) hm hh hi (sigS_size _ _ _ _) (r:=catL (fun j=>(sgB seed i (mdF seed h i m) j).l) 0 (35+h)) (by rw [hb];rfl)]
  rw [hb,rootF_congr (C:=sgB seed i (mdF seed h i m)) fun j hj=>sgL_blk _ _ _ hj,root_made seed hi m,if_pos rfl]
theorem verify_cut (k:Nat) (P:Dg) {seed m:ByteArray} (m2:ByteArray) {h i:Nat} (hh:h≤6) (hi:i<2 ^ h) {c:Nat} (hc:c<1+16*(35+h)):ssign_Verify (k+100) P (h:Int) m2 ((sigS seed h i m).extract 0 c)=some (0,5):=by
  have hp:=pow_le6 hh
  have hb:=sigS_bytes seed h (show i<64 by omega) m
  have hx:bytL ((sigS seed h i m).extract 0 c)=(bytL (sigS seed h i m)).take c:=by rw [bytL_extract,List.drop_zero,Nat.sub_zero]
  have hz:((sigS seed h i m).extract 0 c).size=c:=by rw [← bytL_len,hx,List.length_take,bytL_len,sigS_size];omega
  by_cases h0:c=0
  · exact verify_nil k P m2 hh (by rw [hz];exact h0)
  · refine verify_short k P m2 hh hi (by rw [hz];exact hc) (r:=(catL (fun j=>(sgB seed i (mdF seed h i m) j).l) 0 (35+h)).take (c - 1)) ?_
    rw [hx,hb,show c=(c - 1)+1 by omega]
    rfl
theorem verify_more (k:Nat) (P:Dg) {seed m:ByteArray} (m2:ByteArray) {more:ByteArray} {h i:Nat} (hh:h≤6) (hi:i<2 ^ h) (hm:0<more.size) (hm2:more.size≤1000):ssign_Verify (k+100) P (h:Int) m2 (sigS seed h i m++more)=some (0,6):=by
  have hp:=pow_le6 hh
  have hb:=sigS_bytes seed h (show i<64 by omega) m
  refine verify_long k P m2 hh hi (by rw [size_append,sigS_size];omega) (by rw [size_append,sigS_size];omega) (r:=catL (fun j=>(sgB seed i (mdF seed h i m) j).l) 0 (35+h)++bytL more) ?_
  rw [bytL_append,hb]
  rfl
end Go.Proofs.YtcgdomhednbdpaaDoor
namespace Go.Proofs.YtcgdomhednbdpaaDoor
open Go Go.RowKit
set_option maxRecDepth 100000
theorem byt_zero:Byt (zA 16):=by
  apply byt_of
  intro x hx
  have:=List.eq_of_mem_replicate hx
  rw [this];omega
theorem mk2_l:(mkAr 16 [255,16,0,0,0,0,0,0,0,0,0,0,0,0,0,0]).l=[255,16,0,0,0,0,0,0,0,0,0,0,0,0,0,0]:=mkAr_l rfl
theorem byt_two:Byt (mkAr 16 [255,16,0,0,0,0,0,0,0,0,0,0,0,0,0,0]):=by
  apply byt_of
  rw [mk2_l]
  decide
theorem dz:gx (digA (zA 16)).l 0=0∧gx (digA (zA 16)).l 31=0∧gx (digA (zA 16)).l 32=1∧gx (digA (zA 16)).l 33=14∧gx (digA (zA 16)).l 34=0:=by decide +kernel
theorem dt:gx (digA (mkAr 16 [255,16,0,0,0,0,0,0,0,0,0,0,0,0,0,0])).l 0=15∧gx (digA (mkAr 16 [255,16,0,0,0,0,0,0,0,0,0,0,0,0,0,0])).l 1=15∧gx (digA (mkAr 16 [255,16,0,0,0,0,0,0,0,0,0,0,0,0,0,0])).l 2=1∧gx (digA (mkAr 16 [255,16,0,0,0,0,0,0,0,0,0,0,0,0,0,0])).l 3=0∧gx (digA (mkAr 16 [255,16,0,0,0,0,0,0,0,0,0,0,0,0,0,0])).l 32=1∧gx (digA (mkAr 16 [255,16,0,0,0,0,0,0,0,0,0,0,0,0,0,0])).l 33=12∧gx (digA (mkAr 16 [255,16,0,0,0,0,0,0,0,0,0,0,0,0,0,0])).l 34=1:=by decide +kernel
theorem sz_ok {s x:ByteArray} (h1:s.size=1+16*(35+0)) (h2:x.size=1):(s,(0:Int)).1.size+x.size≤9223372036854775807:=by
  show s.size+x.size≤_
  omega
theorem sane_eq (k:Nat):sl_sanity (k+100)=some true:=by
  obtain ⟨z1,z2,z3,z4,z5⟩:=dz
  obtain ⟨t1,t2,t3,t4,t5,t6,t7⟩:=dt
  have s1:(⟨#[115]⟩:ByteArray).size≤4000:=by decide
  have s2:(⟨#[109]⟩:ByteArray).size≤4000:=by decide
  have s3:(⟨#[120]⟩:ByteArray).size=1:=rfl
  have d1:=digits_eq (k+80) _ byt_zero
  have d2:=digits_eq (k+80) _ byt_two
  rw [show k+80+20=k+100 by omega] at d1 d2
  unfold sl_sanity
  generalize (⟨#[115]⟩:ByteArray)=A at *
  generalize (⟨#[109]⟩:ByteArray)=M at *
  generalize (⟨#[120]⟩:ByteArray)=X at *
  generalize digA (zA 16)=D1 at *
  generalize digA (mkAr 16 [255,16,0,0,0,0,0,0,0,0,0,0,0,0,0,0])=D2 at *
  generalize mkAr 16 [255,16,0,0,0,0,0,0,0,0,0,0,0,0,0,0]=E2 at *
  have p1:=public_no (k+100) A (h:=7) (by omega)
  have g1:=sign_spent (k+100) A M (h:=1) (by omega) (i:=2) (.inr (by rw [show ((2 ^ 1:Nat):Int)=2 from rfl];omega))
  have p2:=public_eq k s1 (h:=0) (by omega)
  have g2:=sign_eq k s1 s2 (h:=0) (i:=0) (by omega) (Nat.lt_of_lt_of_le Nat.zero_lt_one (Nat.le_refl _))
  have v1:=verify_made k (seed:=A) s2 (h:=0) (i:=0) (by omega) (Nat.lt_of_lt_of_le Nat.zero_lt_one (Nat.le_refl _))
  have v2:=verify_more k (valF A 0 0) (seed:=A) (m:=M) M (more:=X) (h:=0) (i:=0) (by omega) (Nat.lt_of_lt_of_le Nat.zero_lt_one (Nat.le_refl _)) (by rw [s3];omega) (by rw [s3];omega)
  have c3:=count_eq (k+100) 3 (by omega)
  have z23:=size_eq (k+99) (h:=2) (i:=3) (by omega) (by decide)
  have z00:=size_eq (k+99) (h:=0) (i:=0) (by omega) (by decide)
  have hz:=sigS_size A 0 0 M
  rw [show strL (sgL (sgB A 0 (mdF A 0 0 M)) 0 (35+0))=sigS A 0 0 M by unfold sigS;with_reducible rfl] at g2
  generalize sigS A 0 0 M=S at *
  generalize valF A 0 0=V at *
  rw [show ((0:Nat):Int)=0 from rfl] at p2 g2 v1 v2 z00
  rw [show ((1:Nat):Int)=1 from rfl] at g1
  rw [show ((3:Nat):Int)=3 from rfl,show ((2 ^ 3:Nat):Int)=8 from rfl] at c3
  rw [show ((3:Nat):Int)=3 from rfl,show ((2:Nat):Int)=2 from rfl,show (1+16*(35+2):Int)=593 from rfl] at z23
  rw [show (1+16*(35+0):Int)=561 from rfl] at z00
  rw [d1,Option.bind_some,d2,Option.bind_some,p1,Option.bind_some,g1,Option.bind_some,p2,Option.bind_some,g2,Option.bind_some]
  have hq:=sz_ok hz s3
  rw [v1,Option.bind_some,if_pos hq,v2,Option.bind_some]
  rw [if_neg (by simp),if_neg (by simp),if_neg (by simp),if_neg (by simp),if_neg (by simp),Option.bind_some]
  rw [if_neg (by decide),if_pos (by omega),if_pos z1,if_pos (by omega),if_pos z2,if_pos (by omega),if_pos z3,if_pos (by omega),if_pos z4,if_pos (by omega),if_pos z5,if_pos t1,if_pos (by omega),if_pos t2,if_pos (by omega),if_pos t3,if_pos (by omega),if_pos t4,if_pos t5,if_pos t6]
  rw [Option.bind_some]
  rw [if_pos (decide_eq_true t7)]
  rw [if_pos (by rfl),c3]
  rw [Option.bind_some]
  rw [if_pos (by rfl),z23]
  rw [Option.bind_some]
  rw [if_pos (by rfl),z00]
  rw [Option.bind_some]
  rw [hz]
  rfl
end Go.Proofs.YtcgdomhednbdpaaDoor
namespace Go.Proofs.YtcgdomhednbdpaaDoor
open Go Go.RowKit
set_option maxRecDepth 100000
end Go.Proofs.YtcgdomhednbdpaaDoor
namespace Go.Proofs.YtcgdomhednbdpaaDoor
open Go Go.RowKit
set_option maxRecDepth 100000
end Go.Proofs.YtcgdomhednbdpaaDoor
namespace Go.Proofs.YtcgdomhednbdpaaDoor
open Go Go.RowKit
set_option maxRecDepth 100000
end Go.Proofs.YtcgdomhednbdpaaDoor
namespace Go.Proofs.YtcgdomhednbdpaaDoor
open Go Go.RowKit
set_option maxRecDepth 100000
def sl_SignIsAccepted (k:Nat) (seed:ByteArray) (height:Int) (index:Int) (message:ByteArray) (cut:Int) (more:ByteArray):Option Bool:=((sl_sanity k ).bind fun rsanity=>(((if 200<(seed.size:Int) then some true else (if 200<(message.size:Int) then some true else some (decide (50<(more.size:Int))))):Option Bool).bind fun s_=>(if s_=true then some rsanity else (if (0:Int)≤(IntKind.i64.wrap (height))∧0<3 then ((sr03_Count k ((IntKind.i64.wrap (height)) % 3)).bind fun rCount=>(if (0:Int)≤(IntKind.i64.wrap (index))∧0<rCount then ((ssign_Public k seed ((IntKind.i64.wrap (height)) % 3)).bind fun rPublic=>((ssign_Sign k seed ((IntKind.i64.wrap (height)) % 3) ((IntKind.i64.wrap (index)) % rCount) message).bind fun rSign=>((ssign_Verify k rPublic.1 ((IntKind.i64.wrap (height)) % 3) message rSign.1).bind fun rVerify=>(((if rPublic.2≠0 then some true else (if rSign.2≠0 then some true else (if rVerify.2≠0 then some true else (if rVerify.1≠((IntKind.i64.wrap (index)) % rCount) then some true else ((ssign_Size k ((IntKind.i64.wrap (height)) % 3) ((IntKind.i64.wrap (index)) % rCount)).bind fun rSize=>(if (rSign.1.size:Int)≠rSize then some true else some (decide ((rSign.1.size:Int)=0)))))))):Option Bool).bind fun s_2=>(if s_2=true then some false else (if (0:Int)≤(IntKind.i64.wrap (cut))∧0<(rSign.1.size:Int) then (if (0:Int)≤((IntKind.i64.wrap (cut)) % (rSign.1.size:Int))∧((IntKind.i64.wrap (cut)) % (rSign.1.size:Int))≤(rSign.1.size:Int) then ((ssign_Verify k rPublic.1 ((IntKind.i64.wrap (height)) % 3) message (rSign.1.extract 0 ((IntKind.i64.wrap (cut)) % (rSign.1.size:Int)).toNat)).bind fun rVerify2=>(if rSign.1.size+more.size≤9223372036854775807 then ((ssign_Verify k rPublic.1 ((IntKind.i64.wrap (height)) % 3) message (rSign.1++more)).bind fun rVerify3=>(if rsanity=true then (if rVerify2.2=5 then (if rVerify3.2=6 then (if 0<(more.size:Int) then some true else some false) else (if 0<(more.size:Int) then some false else some true)) else some false) else some false)) else none)) else none) else none)))))) else none)) else none))))
set_option maxHeartbeats 8000000 in
theorem sl_SignIsAccepted_ok (ax:Axs) (hx:Pl ax) (k:Nat) (seed:ByteArray) (height:Int) (index:Int) (message:ByteArray) (cut:Int) (more:ByteArray) (v:Bool) (H:sl_SignIsAccepted k seed height index message cut more=some v):Pure Tryd.prog (EE ax) GLs 6 [.str seed,.int .u8 height,.int .u8 index,.str message,.int .u16 cut,.str more] (.bool v):=by
 rw [sl_SignIsAccepted] at H
 refine en [.tmp 12] 136 [0,1,2,3,4,5] (hx.no _ (by decide)) (fn6 ax) ?_
 intro h hh
 repeat apply TW.seq
 refine rk [0,1,2,3,4,5] [] hh ?_
 clear hh h
 intro h hh
 obtain ⟨rsanity,e1,H⟩:=bsome H
 repeat apply TW.seq
 refine rkc [0,1,2,3,4,5,13] [] [(.bool rsanity,stL [])] hh ?_ ?_
 ·exact ⟨Call0.call ((sl_sanity_ok ax hx k  rsanity e1 ).call _),trivial⟩
 clear hh h
 intro h hh
 obtain ⟨s_,H1,H⟩:=bsome H
 repeat apply TW.seq
 refine cu [0,1,2,3,4,5,13,39] 0 (fun h bs=>(h 0=.str seed∧h 1=.int .u8 height∧h 2=.int .u8 index∧h 3=.str message∧h 4=.int .u16 cut∧h 5=.str more∧h 13=.bool rsanity∧h 39=.bool s_)∧bs=[]) ?_ ?_
 ·skip
  rcases isp H1 with ⟨c2,H1⟩|⟨c2,H1⟩
  rotate_left
  ·skip
   rcases isp H1 with ⟨c3,H1⟩|⟨c3,H1⟩
   rotate_left
   ·skip
    repeat apply TW.seq
    refine rk [0,1,2,3,4,5,13,39] [] (f3 hh (decide_eq_false c2) (decide_eq_false c3)) ?_
    clear hh h
    intro h hh
    cases H1
    exact ce hh ⟨kq hh,rfl⟩
   repeat apply TW.seq
   refine rk [0,1,2,3,4,5,13,39] [] (f3 hh (decide_eq_false c2) (decide_eq_true c3)) ?_
   clear hh h
   intro h hh
   cases H1
   exact ce hh ⟨kq hh,rfl⟩
  repeat apply TW.seq
  refine rk [0,1,2,3,4,5,13,39] [] (f2 hh (decide_eq_true c2)) ?_
  clear hh h
  intro h hh
  cases H1
  exact ce hh ⟨kq hh,rfl⟩
 clear hh h
 rintro h bs ⟨hh,rfl⟩
 rcases isb H with ⟨c4,H⟩|⟨c4,H⟩
 rotate_left
 ·skip
  repeat apply TW.seq
  refine cf (f2 hh c4) ?_
  repeat apply TW.seq
  refine sk ?_
  obtain ⟨g5,H⟩:=isg H
  repeat apply TW.seq
  refine rk [0,2,3,4,5,13,14] [] (f2 hh c4) ?_
  clear hh h
  intro h hh
  obtain ⟨rCount,e6,H⟩:=bsome H
  obtain ⟨g7,H⟩:=isg H
  repeat apply TW.seq
  refine rkc [0,3,4,5,13,14,15] [] [(.int .i64 rCount,stL [])] (f2 hh c4) ?_ ?_
  ·exact ⟨Call0.call (Pure.clr (sr03_Count_ok ax hx k ((IntKind.i64.wrap (height)) % 3) rCount e6 ) (by first|rfl|simp only [c4])),trivial⟩
  clear hh h
  intro h hh
  obtain ⟨rPublic,e8,H⟩:=bsome H
  repeat apply TW.seq
  refine rkc [0,3,4,5,13,14,15,16,17] [] [(.tup [.agg (rPublic.1.l.map (T.int .u8)),.int .i64 rPublic.2],stL [])] (f2 hh c4) ?_ ?_
  ·exact ⟨Call0.call (Pure.clr (ssign_Public_ok ax hx k seed ((IntKind.i64.wrap (height)) % 3) rPublic e8 ) (by first|rfl|simp only [c4])),trivial⟩
  clear hh h
  intro h hh
  obtain ⟨rSign,e9,H⟩:=bsome H
  repeat apply TW.seq
  refine rkc [3,4,5,13,14,15,16,17,18,19] [] [(.tup [.str rSign.1,.int .i64 rSign.2],stL [.cells true 16 (rPublic.1.l.map (T.int .u8))])] (f2 hh c4) ?_ ?_
  ·exact ⟨Call0.call (Pure.clr (ssign_Sign_ok ax hx k seed ((IntKind.i64.wrap (height)) % 3) ((IntKind.i64.wrap (index)) % rCount) message rSign e9 ) (by first|rfl|simp only [c4])),trivial⟩
  clear hh h
  intro h hh
  obtain ⟨rVerify,e10,H⟩:=bsome H
  repeat apply TW.seq
  refine rkc [3,4,5,13,14,15,16,17,18,19,20,21] [] [(.tup [.int .i64 rVerify.1,.int .i64 rVerify.2],stL [.cells true 16 (rPublic.1.l.map (T.int .u8))])] (f2 hh c4) ?_ ?_
  ·exact ⟨Call0.call (Pure.clr (ssign_Verify_ok ax hx k rPublic.1 ((IntKind.i64.wrap (height)) % 3) message rSign.1 rVerify e10 ) (by first|rfl|simp only [c4])),trivial⟩
  clear hh h
  intro h hh
  obtain ⟨s_2,H1,H⟩:=bsome H
  repeat apply TW.seq
  refine cu [3,4,5,13,14,16,18,98] 1 (fun h bs=>(h 3=.str message∧h 4=.int .u16 cut∧h 5=.str more∧h 13=.bool rsanity∧h 14=.int .i64 ((IntKind.i64.wrap (height)) % 3)∧h 16=.ptr 0 0 16∧h 18=.str rSign.1∧h 98=.bool s_2)∧bs=[.cells true 16 (rPublic.1.l.map (T.int .u8))]) ?_ ?_
  ·skip
   rcases isp H1 with ⟨c11,H1⟩|⟨c11,H1⟩
   rotate_left
   ·skip
    rcases isp H1 with ⟨c12,H1⟩|⟨c12,H1⟩
    rotate_left
    ·skip
     rcases isp H1 with ⟨c13,H1⟩|⟨c13,H1⟩
     rotate_left
     ·skip
      rcases isp H1 with ⟨c14,H1⟩|⟨c14,H1⟩
      rotate_left
      ·skip
       obtain ⟨rSize,e15,H1⟩:=bsome H1
       rcases isp H1 with ⟨c16,H1⟩|⟨c16,H1⟩
       rotate_left
       ·skip
        repeat apply TW.seq
        refine rkc [3,4,5,13,14,16,18,98] [] [(.int .i64 rSize,stL [.cells true 16 (rPublic.1.l.map (T.int .u8))])] (f3 hh (decide_eq_false c11) (f3 (decide_eq_false c12) (decide_eq_false c13) (f3 (decide_eq_false c14) (decide_eq_false c16) c4))) ?_ ?_
        ·exact ⟨Call0.call (Pure.clr (ssign_Size_ok ax hx k ((IntKind.i64.wrap (height)) % 3) ((IntKind.i64.wrap (index)) % rCount) rSize e15 ) (by first|rfl|simp only [c4])),trivial⟩
        clear hh h
        intro h hh
        cases H1
        exact ce hh ⟨kq hh,rfl⟩
       repeat apply TW.seq
       refine rkc [3,4,5,13,14,16,18,98] [] [(.int .i64 rSize,stL [.cells true 16 (rPublic.1.l.map (T.int .u8))])] (f3 hh (decide_eq_false c11) (f3 (decide_eq_false c12) (decide_eq_false c13) (f3 (decide_eq_false c14) (decide_eq_true c16) c4))) ?_ ?_
       ·exact ⟨Call0.call (Pure.clr (ssign_Size_ok ax hx k ((IntKind.i64.wrap (height)) % 3) ((IntKind.i64.wrap (index)) % rCount) rSize e15 ) (by first|rfl|simp only [c4])),trivial⟩
       clear hh h
       intro h hh
       cases H1
       exact ce hh ⟨kq hh,rfl⟩
      repeat apply TW.seq
      refine rk [3,4,5,13,14,16,18,98] [] (f3 hh (decide_eq_false c11) (f3 (decide_eq_false c12) (decide_eq_false c13) (f2 (decide_eq_true c14) c4))) ?_
      clear hh h
      intro h hh
      cases H1
      exact ce hh ⟨kq hh,rfl⟩
     repeat apply TW.seq
     refine rk [3,4,5,13,14,16,18,98] [] (f3 hh (decide_eq_false c11) (f3 (decide_eq_false c12) (decide_eq_true c13) c4)) ?_
     clear hh h
     intro h hh
     cases H1
     exact ce hh ⟨kq hh,rfl⟩
    repeat apply TW.seq
    refine rk [3,4,5,13,14,16,18,98] [] (f3 hh (decide_eq_false c11) (f2 (decide_eq_true c12) c4)) ?_
    clear hh h
    intro h hh
    cases H1
    exact ce hh ⟨kq hh,rfl⟩
   repeat apply TW.seq
   refine rk [3,4,5,13,14,16,18,98] [] (f3 hh (decide_eq_true c11) c4) ?_
   clear hh h
   intro h hh
   cases H1
   exact ce hh ⟨kq hh,rfl⟩
  clear hh h
  rintro h bs ⟨hh,rfl⟩
  rcases isb H with ⟨c17,H⟩|⟨c17,H⟩
  rotate_left
  ·skip
   repeat apply TW.seq
   refine cf (f2 hh c17) ?_
   repeat apply TW.seq
   refine sk ?_
   obtain ⟨g18,H⟩:=isg H
   obtain ⟨g19,H⟩:=isg H
   obtain ⟨rVerify2,e20,H⟩:=bsome H
   repeat apply TW.seq
   refine dk 8 [3,5,13,14,16,18,23] [] [] [(.tup [.int .i64 rVerify2.1,.int .i64 rVerify2.2],stL [.cells true 16 (rPublic.1.l.map (T.int .u8))])] (f3 hh c4 (f2 c17 (bnd_hi g19))) trivial ?_ ?_
   ·exact ⟨Call0.call (Pure.clr (ssign_Verify_ok ax hx k rPublic.1 ((IntKind.i64.wrap (height)) % 3) message (rSign.1.extract 0 ((IntKind.i64.wrap (cut)) % (rSign.1.size:Int)).toNat) rVerify2 e20 ) (by first|rfl|simp only [c4,c17])),trivial⟩
   clear hh h
   intro h hh
   obtain ⟨g21,H⟩:=isg H
   obtain ⟨rVerify3,e22,H⟩:=bsome H
   repeat apply TW.seq
   refine rkc [5,13,23,25] [] [(.tup [.int .i64 rVerify3.1,.int .i64 rVerify3.2],stL [.cells true 16 (rPublic.1.l.map (T.int .u8))])] (f3 hh c4 (f2 c17 (sb_add g21))) ?_ ?_
   ·exact ⟨Call0.call (Pure.clr (ssign_Verify_ok ax hx k rPublic.1 ((IntKind.i64.wrap (height)) % 3) message (rSign.1++more) rVerify3 e22 ) (by first|rfl|simp only [c4,c17])),trivial⟩
   clear hh h
   intro h hh
   rcases isb H with ⟨c23,H⟩|⟨c23,H⟩
   rotate_left
   ·skip
    repeat apply TW.seq
    refine rk [12] [] (f3 hh c23 (f2 c4 c17)) ?_
    clear hh h
    intro h hh
    cases H
    exact rt hh
   rcases isp H with ⟨c24,H⟩|⟨c24,H⟩
   rotate_left
   ·skip
    repeat apply TW.seq
    refine rk [12] [] (f3 hh c23 (f3 (decide_eq_false c24) c4 c17)) ?_
    clear hh h
    intro h hh
    cases H
    exact rt hh
   rcases isp H with ⟨c25,H⟩|⟨c25,H⟩
   rotate_left
   ·skip
    rcases isp H with ⟨c27,H⟩|⟨c27,H⟩
    rotate_left
    ·skip
     repeat apply TW.seq
     refine rk [12] [] (f3 hh c23 (f3 (decide_eq_true c24) (decide_eq_false c25) (f3 (decide_eq_false c27) c4 c17))) ?_
     clear hh h
     intro h hh
     cases H
     exact rt hh
    repeat apply TW.seq
    refine rk [12] [] (f3 hh c23 (f3 (decide_eq_true c24) (decide_eq_false c25) (f3 (decide_eq_true c27) c4 c17))) ?_
    clear hh h
    intro h hh
    cases H
    exact rt hh
   rcases isp H with ⟨c26,H⟩|⟨c26,H⟩
   rotate_left
   ·skip
    repeat apply TW.seq
    refine rk [12] [] (f3 hh c23 (f3 (decide_eq_true c24) (decide_eq_true c25) (f3 (decide_eq_false c26) c4 c17))) ?_
    clear hh h
    intro h hh
    cases H
    exact rt hh
   repeat apply TW.seq
   refine rk [12] [] (f3 hh c23 (f3 (decide_eq_true c24) (decide_eq_true c25) (f3 (decide_eq_true c26) c4 c17))) ?_
   clear hh h
   intro h hh
   cases H
   exact rt hh
  repeat apply TW.seq
  refine ct (f2 hh c17) ?_
  repeat apply TW.seq
  refine rk [12] [] (f3 hh c4 c17) ?_
  clear hh h
  intro h hh
  cases H
  exact rt hh
 repeat apply TW.seq
 refine ct (f2 hh c4) ?_
 repeat apply TW.seq
 refine rk [12] [] (f2 hh c4) ?_
 clear hh h
 intro h hh
 cases H
 exact rt hh
end Go.Proofs.YtcgdomhednbdpaaDoor
namespace Go.Proofs.YtcgdomhednbdpaaDoor
open Go Go.RowKit
set_option maxRecDepth 100000
end Go.Proofs.YtcgdomhednbdpaaDoor
namespace Go.Proofs.YtcgdomhednbdpaaDoor
open Go Go.RowKit
set_option maxRecDepth 100000
theorem sz_le {s x:ByteArray} {H:Nat} (h1:(s.size:Int)=1+16*(35+(H:Int))) (h2:H≤6) (h3:x.size≤1000):s.size+x.size≤9223372036854775807:=by omega
theorem law_Accepted (k:Nat) (seed:ByteArray) (h:Nat) (i:Nat) (m:ByteArray) (c:Nat) (more:ByteArray) (hh:h<256) (hi:i<256) (hc:c<65536):sl_SignIsAccepted (k+100) seed (h:Int) (i:Int) m (c:Int) more=some true:=by
  unfold sl_SignIsAccepted
  rw [sane_eq,Option.bind_some]
  by_cases h1:200<(seed.size:Int)
  · rw [if_pos h1,Option.bind_some,if_pos rfl]
  rw [if_neg h1]
  by_cases h2:200<(m.size:Int)
  · rw [if_pos h2,Option.bind_some,if_pos rfl]
  rw [if_neg h2,Option.bind_some]
  by_cases h3:50<(more.size:Int)
  · rw [if_pos (decide_eq_true h3)]
  rw [if_neg (by rw [decide_eq_true_eq];exact h3)]
  rw [wi (show _∧(h:Int)≤_ by omega),wi (show _∧(i:Int)≤_ by omega),wi (show _∧(c:Int)≤_ by omega)]
  rw [if_pos (by omega)]
  have h3':h % 3≤6:=by omega
  have hp:=pow_le6 h3'
  rw [show ((h:Int) % 3)=((h % 3:Nat):Int) by omega,rcount_eq (k+80) (h % 3) h3',Option.bind_some,if_pos (by omega)]
  have hlt:i % 2 ^ (h % 3)<2 ^ (h % 3):=Nat.mod_lt _ (by omega)
  rw [show ((i:Int) % ((2 ^ (h % 3):Nat):Int))=((i % 2 ^ (h % 3):Nat):Int) from (Int.natCast_emod i (2 ^ (h % 3))).symm]
  generalize hH:h % 3=H at *
  generalize hI:i % 2 ^ H=I at *
  have hs:seed.size≤4000:=by omega
  have hm:m.size≤4000:=by omega
  have hz:=sigS_size seed H I m
  have g:=sign_eq k hs hm h3' hlt
  rw [show strL (sgL (sgB seed I (mdF seed H I m)) I (35+H))=sigS seed H I m by unfold sigS;with_reducible rfl] at g
  have v:=verify_made k (seed:=seed) hm h3' hlt
  have vc:=fun {c:Nat} (hc:c<1+16*(35+H))=>verify_cut k (valF seed H 0) (seed:=seed) (m:=m) m h3' hlt hc
  have vm:=fun (h0:0<more.size)=>verify_more k (valF seed H 0) (seed:=seed) (m:=m) m (more:=more) h3' hlt h0 (by omega)
  have z:=size_eq (k+99) h3' hlt
  rw [public_eq k hs h3',Option.bind_some,g,Option.bind_some]
  have ve:more.size=0→sigS seed H I m++more=sigS seed H I m:=by
    intro h0
    have:more.data=#[]:=Array.eq_empty_of_size_eq_zero h0
    apply ByteArray.ext
    rw [ByteArray.data_append,this,Array.append_empty]
  generalize sigS seed H I m=S at *
  generalize valF seed H 0=V at *
  rw [v,Option.bind_some,if_neg (by simp),if_neg (by simp),if_neg (by simp),if_neg (by simp),z,Option.bind_some]
  have e1:((S.size:Nat):Int)=1+16*(35+(H:Int)):=by omega
  have e2:¬ ((S.size:Int)=0):=by omega
  have hr:(0:Int)≤(c:Int) % (S.size:Int)∧(c:Int) % (S.size:Int)<(S.size:Int):=⟨Int.emod_nonneg _ (by omega),Int.emod_lt_of_pos _ (by omega)⟩
  have hq:=sz_le e1 h3' (x:=more) (by omega)
  dsimp only
  rw [if_neg (fun hne=>hne e1),Option.bind_some,if_neg (by rw [decide_eq_true_eq];exact e2)]
  rw [if_pos (by omega),if_pos (by omega)]
  rw [vc (c:=((c:Int) % (S.size:Int)).toNat) (by omega),Option.bind_some,if_pos hq]
  by_cases h0:0<more.size
  · rw [vm h0,Option.bind_some,if_pos rfl,if_pos (by rfl),if_pos (by rfl),if_pos (by omega)]
  · rw [ve (by omega),v,Option.bind_some,if_pos rfl,if_pos (by rfl),if_neg (by simp),if_neg (by omega)]
end Go.Proofs.YtcgdomhednbdpaaDoor
