/- Part 10 of the proof of FitMovesAsSpecified (several texts in one; no further condition). -/
import Derived.Test.YteifcnjpjjaikaaGreatZI
import Derived.Test.YteifcnjpjjaikaaGreatZF
import Derived.Test.YteifcnjpjjaikaaGreatZH
set_option linter.unusedSimpArgs false
set_option linter.unusedVariables false
set_option linter.unusedSectionVars false
namespace Go.Proofs.YteifcnjpjjaikaaGreat
set_option maxHeartbeats 8000000
open _root_.And renaming intro->dr
open _root_.Bool renaming and_eq_true->dz,and_self->ef,not_false->gd,not_true->ge,true_or->ig
open Go.Proofs.YteifcnjpjjaikaaGreat.Call renaming fresh->rp
open Go.IntKind renaming i64->dx
open _root_.List renaming any_cons->n6,any_eq_true->ns,append_assoc->ew,append_nil->fo,cons_append->fk,drop_eq_getElem_cons->jd,drop_length->nu,drop_of_length_le->gu,drop_succ_cons->jh,drop_zero->fl,flatten_cons->f5,flatten_nil->ff,getElem?_cons_succ->jb,getElem?_cons_zero->fp,getElem_mem->fi,getElem_of_mem->ku,length_append->ep,length_cons->et,length_map->ed,length_nil->gb,length_singleton->iw,map_cons->gj,mem_filterMap->qt,mem_map->ic,mem_singleton->lc,nil_append->eu,replicate->el,set_cons_succ->jo,set_cons_zero->ju,singleton_append->nf,take_of_length_le->fx
open _root_.Nat renaming lt_of_lt_of_le->fb,lt_or_ge->jl,mul_one->qo,reduceAdd->d8,reduceEqDiff->d9,reduceLT->fm,reduceLeDiff->jk,reduceMul->fw,reduceSub->gp,zero_add->fy,zero_le->ft
open _root_.Option renaming bind_some->dw
open Go.Proofs.YteifcnjpjjaikaaGreat.Pure renaming clr->f6
open _root_.Sum renaming elim->il
open Go.Proofs.YteifcnjpjjaikaaGreat.T renaming int->dy,nils->qd,ren->pg,renL->ne
open Go.Proofs.YteifcnjpjjaikaaGreat.TS renaming add_ne->l7,add_same->m6,set_ne->gr,set_same->im
open Go.Proofs.YteifcnjpjjaikaaGreat.TW renaming block->ey,freeze->lw,loopT->gt,seq->dv
open Go.Proofs.YteifcnjpjjaikaaGreat.zap renaming call->fc
set_option maxRecDepth 100000
open Go Go.RowKit
def zcy (k:Nat) (k_:Int) (top:Int):Option Bool:=(if 0<=k_ then some (decide (k_<top)) else some false)
theorem zbj (ax:Axs) (hx:NoAx ax) (k:Nat) (k_:Int) (top:Int) (v:Bool) (H:zcy k k_ top=some v):Pure Tryz.prog (EE ax) [] 57 [.int .i64 k_,.int .i64 top] (.bool v):=by
 rw [zcy] at H;refine en [.tmp 4] 12 [0,1] (hx.no _ (by decide)) (fn57 ax) ?_;intro h hh;apply dv;refine rk [0,1] [] hh fun h hh=>?_;rcases isp H with ⟨c1,H⟩|⟨c1,H⟩;rotate_left
 .skip;apply dv;refine rk [4] [] (f2 hh (zAb c1)) fun h hh=>?_;cases H;exact rt hh
 apply dv;refine rk [4] [] (f2 hh (zAa c1)) fun h hh=>?_;cases H;exact rt hh
def zcc (k:Nat) (s_:List Int) (v_:Int):Nat->Int->Option (Int ⊕ Unit)
 |0,_=>none
 |m+1,i=>(if i<(s_.length:Int) then (if 0<=i/\i<(s_.length:Int) then (if v_=(gx s_ i) then some (.inl i) else zcc k s_ v_ m (dx.wrap (i+1))) else none) else some (.inr ()))
def zgq (k:Nat) (s_:List Int) (v_:Int):Option Int:=((zcc k s_ v_ k 0:Option (Int ⊕ Unit)).bind fun o=>il (fun r=>some r) (fun s_2=>some (-1)) o)
theorem zoz (ax:Axs) (hx:NoAx ax) (k:Nat) (s_:List Int) (v_:Int) (v:Int) (H:zgq k s_ v_=some v):Pure Tryz.prog (EE ax) [] 118 [ints s_,.int .i64 v_] (.int .i64 v):=by
 rw [zgq] at H;refine en [.tmp 4] 19 [0,1] (hx.no _ (by decide)) (fn118 ax) ?_;intro h hh;apply dv;refine rk [0,1] [] hh fun h hh=>?_;repeat apply dv
 refine rk [0,1,7,8] [] hh fun h hh=>?_;obtain ⟨o,H1,H⟩:=zad H;refine cu [] 0 (fun h bs=>∃ s_2:Unit,o=.inr s_2/\(True)/\bs=[]) ?_ ?_
 .skip;apply ey;refine gt [0,1,7,8] (fun m h bs=>∃ (i:Int),zcc k s_ v_ m i=some o/\(h 0=ints s_/\h 1=.int .i64 v_/\h 7=.int .i64 (s_.length:Int)/\h 8=.int .i64 i)/\bs=[]) ?_ k _ _ ?_;rotate_left
  .exact ⟨0,H1,kq hh,rfl⟩
  clear hh h H1;rintro m h bs ⟨i,H1,hh,rfl⟩;rcases m with _|m
  .rw [zcc] at H1;cases H1
  rw [zcc] at H1;apply dv;refine rk [0,1,7,8,9] [] hh fun h hh=>?_;rcases isp H1 with ⟨c1,H1⟩|⟨c1,H1⟩;rotate_left
  .skip;apply dv;refine cf (f2 hh (zAb c1)) ?_;refine xk ?_;cases H1;exact ce hh ⟨_,rfl,kq hh,rfl⟩
  apply dv;refine ct (f2 hh (zAa c1)) ?_;refine sk ?_;apply dv;apply ey;apply dv;refine rk [0,1,5,7,8] [] hh fun h hh=>?_;obtain ⟨g2,H1⟩:=isg H1;apply dv;refine rk [0,1,5,7,8,16] [] (f2 hh (zaf g2)) fun h hh=>?_;rcases isp H1 with ⟨c3,H1⟩|⟨c3,H1⟩;rotate_left
  .skip;refine cf (f2 hh (zAb c3)) ?_;refine sk ?_;refine rk [0,1,7,8] [] hh fun h hh=>?_;exact rd m hh ⟨(dx.wrap (i+1)),H1,kq hh,rfl⟩
  refine ct (f2 hh (zAa c3)) ?_;apply dv;refine rk [4] [] hh fun h hh=>?_;cases H1;obtain rfl:=sinl H;exact rt hh
 clear hh h;rintro h bs ⟨s_2,rfl,hh,rfl⟩;replace H:=sinr H;apply dv;refine rk [4] [] hh fun h hh=>?_;cases H;exact rt hh
def zdu (k:Nat) (s_:List Int) (v_:Int):Option Bool:=((zgq k s_ v_).bind fun bw=>some (decide (0<=bw)))
theorem zmf (ax:Axs) (hx:NoAx ax) (k:Nat) (s_:List Int) (v_:Int) (v:Bool) (H:zdu k s_ v_=some v):Pure Tryz.prog (EE ax) [] 96 [ints s_,.int .i64 v_] (.bool v):=by
 rw [zdu] at H;refine en [.tmp 4] 9 [0,1] (hx.no _ (by decide)) (fn96 ax) ?_;intro h hh;apply dv;refine rk [0,1] [] hh fun h hh=>?_;obtain ⟨bw,e1,H⟩:=zad H;apply dv;refine rkp [4] [] [.int .i64 bw] hh ?_ ?_
 .exact ⟨fc ((zoz ax hx k s_ v_ bw e1 ).call _),trivial⟩
 clear hh h;intro h hh;cases H;exact rt hh
def za6 (k:Nat) (s_:List Rule) (a:Spot):Nat->Int->Option (Int ⊕ Unit)
 |0,_=>none
 |m+1,i=>(if i<(s_.length:Int) then (if 0<=i/\i<(s_.length:Int) then ((ze7 k a (gx s_ i)).bind fun ar=>(if ar=true then some (.inl i) else za6 k s_ a m (dx.wrap (i+1)))) else none) else some (.inr ()))
def zdn (k:Nat) (s_:List Rule) (a:Spot):Option Int:=((za6 k s_ a k 0:Option (Int ⊕ Unit)).bind fun o=>il (fun r=>some r) (fun s_2=>some (-1)) o)
theorem zjw (ax:Axs) (hx:NoAx ax) (k:Nat) (s_:List Rule) (a:Spot) (v:Int) (H:zdn k s_ a=some v):Call Tryz.prog (EE ax) [] 89 [zag s_,.fn 55 [zed a] []] (stL []) (tupT [.int .i64 v]) (stL []):=by
 rw [zdn] at H;refine enB [.tmp 4] 19 [0,1] (hx.no _ (by decide)) (fn89 ax) ?_;intro h hh;apply dv;refine rk [0,1] [] hh fun h hh=>?_;repeat apply dv
 refine rk [0,1,7,8] [] hh fun h hh=>?_;obtain ⟨o,H1,H⟩:=zad H;refine cu [] 0 (fun h bs=>∃ s_2:Unit,o=.inr s_2/\(True)/\bs=[]) ?_ ?_
 .skip;apply ey;refine gt [0,1,7,8] (fun m h bs=>∃ (i:Int),za6 k s_ a m i=some o/\(h 0=zag s_/\h 1=.fn 55 [zed a] []/\h 7=.int .i64 (s_.length:Int)/\h 8=.int .i64 i)/\bs=[]) ?_ k _ _ ?_;rotate_left
  .exact ⟨0,H1,kq hh,rfl⟩
  clear hh h H1;rintro m h bs ⟨i,H1,hh,rfl⟩;rcases m with _|m
  .rw [za6] at H1;cases H1
  rw [za6] at H1;apply dv;refine rk [0,1,7,8,9] [] hh fun h hh=>?_;rcases isp H1 with ⟨c1,H1⟩|⟨c1,H1⟩;rotate_left
  .skip;apply dv;refine cf (f2 hh (zAb c1)) ?_;refine xk ?_;cases H1;exact ce hh ⟨_,rfl,kq hh,rfl⟩
  apply dv;refine ct (f2 hh (zAa c1)) ?_;refine sk ?_;apply dv;apply ey;apply dv;refine rk [0,1,5,7,8] [] hh fun h hh=>?_;obtain ⟨g2,H1⟩:=isg H1;obtain ⟨ar,e3,H1⟩:=zad H1;apply dv;refine rkp [0,1,5,7,8,16] [] [.bool ar] (f2 hh (zaf g2)) ?_ ?_
  .exact ⟨fc ((zkl ax hx k a (gx s_ i) ar e3 ).call _),trivial⟩
  clear hh h;intro h hh;rcases isb H1 with ⟨c4,H1⟩|⟨c4,H1⟩;rotate_left
  .skip;refine cf (f2 hh c4) ?_;refine sk ?_;refine rk [0,1,7,8] [] (f2 hh c4) fun h hh=>?_;exact rd m hh ⟨(dx.wrap (i+1)),H1,kq hh,rfl⟩
  refine ct (f2 hh c4) ?_;apply dv;refine rk [4] [] (f2 hh c4) fun h hh=>?_;cases H1;obtain rfl:=sinl H;exact rtB hh
 clear hh h;rintro h bs ⟨s_2,rfl,hh,rfl⟩;replace H:=sinr H;apply dv;refine rk [4] [] hh fun h hh=>?_;cases H;exact rtB hh
def zbl (k:Nat) (s_:List Rule) (a:Spot):Option Bool:=((zdn k s_ a).bind fun rb=>some (decide (0<=rb)))
theorem zfg (ax:Axs) (hx:NoAx ax) (k:Nat) (s_:List Rule) (a:Spot) (v:Bool) (H:zbl k s_ a=some v):Call Tryz.prog (EE ax) [] 53 [zag s_,.fn 55 [zed a] []] (stL []) (tupT [.bool v]) (stL []):=by
 rw [zbl] at H;refine enB [.tmp 4] 9 [0,1] (hx.no _ (by decide)) (fn53 ax) ?_;intro h hh;apply dv;refine rk [0,1] [] hh fun h hh=>?_;obtain ⟨rb,e1,H⟩:=zad H;apply dv;refine rkp [4] [] [.int .i64 rb] hh ?_ ?_
 .exact ⟨ca [] (zjw ax hx k s_ a rb e1),trivial⟩
 clear hh h;intro h hh;cases H;exact rtB hh
def zbq (k:Nat) (t:List Rule) (l:List Int):Nat->Int->(List Rule)->Nat->Option (List Rule×Nat)
 |0,_,_,_=>none
 |m+1,i,l2,n=>(if i<(t.length:Int) then (if 0<=i/\i<(t.length:Int) then ((zdu k l i).bind fun bw=>(if bw=true then zbq k t l m (dx.wrap (i+1)) l2 n else (if (n+1)*201<=1000000000 then zbq k t l m (dx.wrap (i+1)) (l2++[(⟨(gx t i).prio,((gx t i).mat),(gx t i).step,(gx t i).outs⟩:Rule)]) (n+1) else none))) else none) else some (l2,n))
def zf2 (k:Nat) (t:List Rule) (l:List Int):Option (List Rule×Nat):=((zbq k t l k 0 [] 0:Option (List Rule×Nat)).bind fun s_=>some (s_.1,s_.2))
theorem zpk (ax:Axs) (hx:NoAx ax) (k:Nat) (t:List Rule) (l:List Int) (v:List Rule×Nat) (H:zf2 k t l=some v):Call Tryz.prog (EE ax) [] 60 [zag t,ints l] (stL []) (tupT [.arr 0 23 0 v.2 v.2 (v.2*23)]) (stL [.cells false (v.2*23) (vecC zai v.1)]):=by
 rw [zf2] at H;refine enBr [.tmp 4] 25 [0,1] (hx.no _ (by decide)) (fn60 ax) ?_;intro h hh;apply dv;refine rk [0,1] [] hh fun h hh=>?_;apply dv;refine rk [0,1,5] [] hh fun h hh=>?_;refine vk 5 23 [0,1,5] hh fun h hh=>?_;repeat apply dv
 refine rk [1,5,8,9,10] [] hh fun h hh=>?_;obtain ⟨s_,H1,H⟩:=zad H;refine cu [5] 1 (fun h bs=>(h 5=.arr 0 23 0 s_.2 s_.2 (s_.2*23))/\bs=[.cells false (s_.2*23) (vecC zai s_.1)]) ?_ ?_
 .skip;apply ey;refine gt [1,5,8,9,10] (fun m h bs=>∃ (i:Int) (l2:List Rule) (n:Nat),zbq k t l m i l2 n=some s_/\(h 1=ints l/\h 5=.arr 0 23 0 n n (n*23)/\h 8=zag t/\h 9=.int .i64 (t.length:Int)/\h 10=.int .i64 i)/\bs=[.cells false (n*23) (vecC zai l2)]) ?_ k _ _ ?_;rotate_left
  .exact ⟨0,[],0,H1,kq hh,rfl⟩
  clear hh h H1;rintro m h bs ⟨i,l2,n,H1,hh,rfl⟩;rcases m with _|m
  .rw [zbq] at H1;cases H1
  rw [zbq] at H1;apply dv;refine rk [1,5,8,9,10,11] [] hh fun h hh=>?_;rcases isp H1 with ⟨c1,H1⟩|⟨c1,H1⟩;rotate_left
  .skip;apply dv;refine cf (f2 hh (zAb c1)) ?_;refine xk ?_;cases H1;exact ce hh ⟨kq hh,rfl⟩
  apply dv;refine ct (f2 hh (zAa c1)) ?_;refine sk ?_;apply dv;apply ey;obtain ⟨g2,H1⟩:=isg H1;apply dv;refine rk [1,5,6,7,8,9,10] [] (f2 hh (zaf g2)) fun h hh=>?_;obtain ⟨bw,e3,H1⟩:=zad H1;apply dv;refine rkp [1,5,7,8,9,10,18] [] [.bool bw] hh ?_ ?_
  .exact ⟨fc ((zmf ax hx k l i bw e3 ).call _),trivial⟩
  clear hh h;intro h hh;rcases isb H1 with ⟨c4,H1⟩|⟨c4,H1⟩;rotate_left
  .skip;refine ct (f2 hh c4) ?_;obtain ⟨g5,H1⟩:=isg H1;refine rg [] [] [.cells false ((n+1)*23) (vecC zai (l2++[(⟨(gx t i).prio,((gx t i).mat),(gx t i).step,(gx t i).outs⟩:Rule)])),.cells true 23 (dy .i64 ((gx t i).prio) :: ((((gx t i).mat).mask).l.map (dy .i64)++((((gx t i).mat).bits).l.map (dy .i64)++[dy .i64 ((gx t i).step),zbb ((gx t i).outs)])))] (fun h=>h 1=ints l/\h 5=.arr 0 23 0 (n+1) (n+1) ((n+1)*23)/\h 8=zag t/\h 9=.int .i64 (t.length:Int)/\h 10=.int .i64 i) (f3 hh c4 ((show vecC zai [(⟨(gx t i).prio,((gx t i).mat),(gx t i).step,(gx t i).outs⟩:Rule)]=(dy .i64 ((⟨(gx t i).prio,((gx t i).mat),(gx t i).step,(gx t i).outs⟩:Rule).prio) :: ((((⟨(gx t i).prio,((gx t i).mat),(gx t i).step,(gx t i).outs⟩:Rule).mat).mask).l.map (dy .i64)++((((⟨(gx t i).prio,((gx t i).mat),(gx t i).step,(gx t i).outs⟩:Rule).mat).bits).l.map (dy .i64)++[dy .i64 ((⟨(gx t i).prio,((gx t i).mat),(gx t i).step,(gx t i).outs⟩:Rule).step),zbb ((⟨(gx t i).prio,((gx t i).mat),(gx t i).step,(gx t i).outs⟩:Rule).outs)]))) from zga.trans rfl))) trivial fun h hh=>?_;refine rk [1,5,8,9,10] [] (f2 hh c4) fun h hh=>?_;exact rd m hh ⟨(dx.wrap (i+1)),(l2++[(⟨(gx t i).prio,((gx t i).mat),(gx t i).step,(gx t i).outs⟩:Rule)]),(n+1),H1,kq hh,rfl⟩
  refine cf (f2 hh c4) ?_;refine sk ?_;refine rk [1,5,8,9,10] [] (f2 hh c4) fun h hh=>?_;exact rd m hh ⟨(dx.wrap (i+1)),l2,n,H1,kq hh,rfl⟩
 clear hh h;rintro h bs ⟨hh,rfl⟩;apply dv;refine rk [4] [] hh fun h hh=>?_;cases H;exact rtB hh
def zce (k:Nat) (n0:Nat):Nat->Int->(List Rule)->Option (List Rule)
 |0,_,_=>none
 |m+1,i,l=>(if i<(n0:Int) then (if 0<=i/\i<(n0:Int) then (if i.toNat<l.length then zce k n0 m (dx.wrap (i+1)) (l.set i.toNat ({ l.getD i.toNat default with prio:=dx.wrap ((n0:Int) - i) })) else none) else none) else some l)
def ze8 (k:Nat) (n0:Nat) (l0:List Rule):Option (List Rule):=((zce k n0 k 0 l0:Option (List Rule)).bind fun s_=>(if s_.length=n0 then some s_ else none))
theorem zkm (ax:Axs) (hx:NoAx ax) (k:Nat) (n0:Nat) (l0:List Rule) (v:List Rule) (H:ze8 k n0 l0=some v):Call Tryz.prog (EE ax) [] 67 [.arr 0 23 0 n0 n0 (n0*23)] (stL [.cells false (n0*23) (vecC zai l0)]) (tupT [zag v]) (stL [.gone]):=by
 rw [ze8] at H;refine enB [.tmp 2] 19 [0] (hx.no _ (by decide)) (fn67 ax) ?_;intro h hh;apply dv;refine rk [0] [] hh fun h hh=>?_;repeat apply dv
 refine rk [0,5,6] [] hh fun h hh=>?_;obtain ⟨s_,H1,H⟩:=zad H;refine cu [0] 1 (fun h bs=>(h 0=.arr 0 23 0 n0 n0 (n0*23))/\bs=[.cells false (n0*23) (vecC zai s_)]) ?_ ?_
 .skip;apply ey;refine gt [0,5,6] (fun m h bs=>∃ (i:Int) (l:List Rule),zce k n0 m i l=some s_/\(h 0=.arr 0 23 0 n0 n0 (n0*23)/\h 5=.int .i64 (n0:Int)/\h 6=.int .i64 i)/\bs=[.cells false (n0*23) (vecC zai l)]) ?_ k _ _ ?_;rotate_left
  .exact ⟨0,l0,H1,kq hh,rfl⟩
  clear hh h H1;rintro m h bs ⟨i,l,H1,hh,rfl⟩;rcases m with _|m
  .rw [zce] at H1;cases H1
  rw [zce] at H1;apply dv;refine rk [0,5,6,7] [] hh fun h hh=>?_;rcases isp H1 with ⟨c1,H1⟩|⟨c1,H1⟩;rotate_left
  .skip;apply dv;refine cf (f2 hh (zAb c1)) ?_;refine xk ?_;cases H1;exact ce hh ⟨kq hh,rfl⟩
  apply dv;refine ct (f2 hh (zAa c1)) ?_;refine sk ?_;apply dv;apply ey;apply dv;refine rk [0,3,5,6] [] hh fun h hh=>?_;obtain ⟨g2,H1⟩:=isg H1;obtain ⟨g3,H1⟩:=isg H1;refine rk [0,5,6] [] (f2 hh (yb8 zai 23 ({ l.getD i.toNat default with prio:=dx.wrap ((n0:Int) - i) }) (fun x=>zbc x) (by decide) g3 (by rfl))) fun h hh=>?_;refine rk [0,5,6] [] hh fun h hh=>?_;exact rd m hh ⟨(dx.wrap (i+1)),(l.set i.toNat ({ l.getD i.toNat default with prio:=dx.wrap ((n0:Int) - i) })),H1,kq hh,rfl⟩
 clear hh h;rintro h bs ⟨hh,rfl⟩;apply dv;refine rk [2] [] hh fun h hh=>?_;obtain ⟨g4,H⟩:=isg H;refine lw 2 (b:=0) (e:=23) (off:=0) (len:=n0) (cap:=n0) (M:=(n0*23)) (s_.map zai) (kq hh) (by rfl) (by omega) (by omega) (by rw [fl];exact zgd (fun x=>zbc x) g4) (fun t ht=>by obtain ⟨x,_,rfl⟩:=ic.1 ht;first|rfl|exact zg2 _|exact ze3 _|exact zca _|exact zbc _ | (rw [ed];rfl)) (by rw [ed]<;>exact g4) (by omega) ?_;rw [zgb _ _ _ (by simp only [lzA]<;>omega)];simp only [scA];refine gk [2] hh fun h hh=>?_;cases H;exact rtB hh
def zet (k:Nat) (c:zam) (m_:Offl) (ab:List Rule×List Int):Nat->Bool->Int->Option Bool
 |0,_,_=>none
 |m+1,used,i=>(if i<(ab.1.length:Int) then (if used=true then zet k c m_ ab m true (dx.wrap (i+1)) else ((zbl k (gx c.tables m_.node) (⟨m_.back,dx.wrap ((dx.wrap (m_.first+1))+i)⟩:Spot)).bind fun rb2=>zet k c m_ ab m rb2 (dx.wrap (i+1)))) else some used)
def zfk (k:Nat) (ab:List Rule×List Int) (af:Pat) (i2:Int) (i3:Int):Nat->Int->(List Alt)->Option (List Alt)
 |0,_,_=>none
 |m+1,i4,l3=>(if i4<(((gx ((gx ab.1 i2).outs) i3).length):Int) then (if 0<=i4/\i4<(((gx ((gx ab.1 i2).outs) i3).length):Int) then (if i4.toNat<l3.length then ((zif k af ((l3.getD i4.toNat default).mod)).bind fun ap=>zfk k ab af i2 i3 m (dx.wrap (i4+1)) (l3.set i4.toNat ({ l3.getD i4.toNat default with mod:=ap }))) else none) else none) else some l3)
def zer (k:Nat) (ab:List Rule×List Int) (af:Pat) (i2:Int):Nat->Int->(List (List Alt))->Nat->Option (List (List Alt)×Nat)
 |0,_,_,_=>none
 |m+1,i3,l2,n3=>(if i3<(((gx ab.1 i2).outs).length:Int) then (((if 0<=i3/\i3<(((gx ab.1 i2).outs).length:Int) then (if (gx ((gx ab.1 i2).outs) i3).length*169<=1000000000 then ((zfk k ab af i2 i3 k 0 (gx ((gx ab.1 i2).outs) i3):Option (List Alt)).bind fun s_9=>(if s_9.length=(gx ((gx ab.1 i2).outs) i3).length then (if (n3+1)*25<=1000000000 then some (l2++[s_9]) else none) else none)) else none) else none):Option (List (List Alt))).bind fun s_8=>zer k ab af i2 m (dx.wrap (i3+1)) s_8 (n3+1)) else some (l2,n3))
def zes (k:Nat) (m_:Offl) (ab:List Rule×List Int) (af:Pat):Nat->Int->(List Rule)->Nat->Option (List Rule×Nat)
 |0,_,_,_=>none
 |m+1,i2,l,n2=>(if i2<(ab.1.length:Int) then (((if 0<=i2/\i2<(ab.1.length:Int) then ((zer k ab af i2 k 0 [] 0:Option (List (List Alt)×Nat)).bind fun s_7=>((zbm k (⟨m_.back,dx.wrap ((dx.wrap (m_.first+1))+i2)⟩:Spot)).bind fun bp=>(if s_7.1.length=s_7.2 then (if (n2+1)*201<=1000000000 then some (l++[(⟨0,bp,(gx ab.1 i2).step,s_7.1⟩:Rule)]) else none) else none))) else none):Option (List Rule)).bind fun s_6=>zes k m_ ab af m (dx.wrap (i2+1)) s_6 (n2+1)) else some (l,n2))
def zd4 (k:Nat) (c:zam) (m_:Offl) (aa:zfe×Bool) (ab:List Rule×List Int):Nat->Int->(List Rule)->Nat->Option (List Rule×Nat)
 |0,_,_,_=>none
 |m+1,i5,l4,n4=>(if i5<(aa.1.rules.length:Int) then (if 0<=i5/\i5<(aa.1.rules.length:Int) then (if (0:Int)<=(gx aa.1.rules i5)/\(gx aa.1.rules i5)<((gx c.tables m_.node).length:Int) then (if (0:Int)<=0/\0<(10:Int) then (if (0:Int)<=9/\9<(10:Int) then (if 0<=i5/\i5<(ab.2.length:Int) then (if 0<=(gx ab.2 i5) then ((zlp k m_.back (dx.wrap ((dx.wrap (m_.first+1))+(gx ab.2 i5)))).bind fun bc=>(if (n4+1)*201<=1000000000 then zd4 k c m_ aa ab m (dx.wrap (i5+1)) (l4++[(⟨0,(⟨((gx (gx c.tables m_.node) (gx aa.1.rules i5)).mat).mask,((((gx (gx c.tables m_.node) (gx aa.1.rules i5)).mat).bits).set 0 m_.out).set 9 m_.first⟩:Pat),(-1),bc⟩:Rule)]) (n4+1) else none)) else (if (n4+1)*201<=1000000000 then zd4 k c m_ aa ab m (dx.wrap (i5+1)) (l4++[(⟨0,(⟨((gx (gx c.tables m_.node) (gx aa.1.rules i5)).mat).mask,((((gx (gx c.tables m_.node) (gx aa.1.rules i5)).mat).bits).set 0 m_.out).set 9 m_.first⟩:Pat),(-1),[]⟩:Rule)]) (n4+1) else none)) else none) else none) else none) else none) else none) else some (l4,n4))
def ziu (k:Nat) (n:Net) (c:zam) (m_:Offl):Option (zam×Int):=((((zcy k m_.node (n.nodes.length:Int)).bind fun r1=>(if r1=true then ((zcy k m_.out (n.links.length:Int)).bind fun r12=>(if r12=true then ((zcy k m_.back (n.links.length:Int)).bind fun r13=>(if r13=true then ((zcy k m_.port 65536).bind fun r14=>(if r14=true then ((zcy k m_.tag 65536).bind fun r15=>some (!r15)) else some true)) else some true)) else some true)) else some true)):Option Bool).bind fun s_=>(if s_=true then some ((⟨0,[],[]⟩:zam),1) else (if 0<=m_.out/\m_.out<(n.links.length:Int) then (if 0<=m_.back/\m_.back<(n.links.length:Int) then (((if ((gx n.links m_.out).frm)≠m_.node then some true else (if ((gx n.links m_.back).frm)≠((gx n.links m_.out).to) then some true else some (decide (((gx n.links m_.back).to)≠m_.node)))):Option Bool).bind fun s_2=>(if s_2=true then some ((⟨0,[],[]⟩:zam),1) else (if 0<=m_.node/\m_.node<(c.tables.length:Int) then (if (0:Int)<=((gx n.links m_.out).to)/\((gx n.links m_.out).to)<(c.tables.length:Int) then ((zng k (gx c.tables m_.node) (⟨m_.port,m_.tag⟩:Spot)).bind fun aa=>(if aa.2=true then ((zit k (gx c.tables m_.node) aa.1).bind fun ab=>(((if m_.first<1 then some true else some (decide ((dx.wrap (65535 - (ab.1.length:Int)))<m_.first))):Option Bool).bind fun s_3=>(if s_3=true then some ((⟨0,[],[]⟩:zam),1) else ((zbl k (gx c.tables ((gx n.links m_.out).to)) (⟨m_.out,m_.first⟩:Spot)).bind fun rb=>((zet k c m_ ab k rb 0:Option Bool).bind fun s_4=>(if s_4=true then some ((⟨0,[],[]⟩:zam),26) else ((zf2 k (gx c.tables m_.node) aa.1.rules).bind fun rb3=>((zbm k (⟨m_.port,m_.tag⟩:Spot)).bind fun ai=>((zlp k m_.out m_.first).bind fun bd=>(if (rb3.2+1)*201<=1000000000 then ((zbm k (⟨m_.port,m_.tag⟩:Spot)).bind fun af=>((zes k m_ ab af k 0 (rb3.1++[(⟨0,ai,(-1),bd⟩:Rule)]) (rb3.2+1):Option (List Rule×Nat)).bind fun s_5=>(if (gx c.tables ((gx n.links m_.out).to)).length*201<=1000000000 then ((zd4 k c m_ aa ab k 0 (gx c.tables ((gx n.links m_.out).to)) ((gx c.tables ((gx n.links m_.out).to)).length):Option (List Rule×Nat)).bind fun s_10=>(((if 4000<(s_5.2:Int) then some true else some (decide (4000<(s_10.2:Int)))):Option Bool).bind fun s_11=>(if s_11=true then some ((⟨0,[],[]⟩:zam),2) else (if c.tables.length*25<=1000000000 then ((ze8 k s_5.2 s_5.1).bind fun rb4=>((ze8 k s_10.2 s_10.1).bind fun rb5=>(if m_.node.toNat<c.tables.length then (if ((gx n.links m_.out).to).toNat<(c.tables.set m_.node.toNat rb4).length then (if ((c.tables.set m_.node.toNat rb4).set ((gx n.links m_.out).to).toNat rb5).length=c.tables.length then some ((⟨c.version,(c.tables.set m_.node.toNat rb4).set ((gx n.links m_.out).to).toNat rb5,c.steps⟩:zam),0) else none) else none) else none))) else none)))) else none))) else none)))))))))) else some ((⟨0,[],[]⟩:zam),9))) else none) else none))) else none) else none)))
theorem zsy (ax:Axs) (hx:NoAx ax) (k:Nat) (n:Net) (c:zam) (m_:Offl) (v:zam×Int) (H:ziu k n c m_=some v):Pure Tryz.prog (EE ax) [] 25 [eNet n,zds c,zri m_] (tupT [zds v.1,.int .i64 v.2]):=by
 rw [ziu] at H;refine enN [.cell 6 30,.tmp 7] 329 [0,1,2] (hx.no _ (by decide)) (fn25 ax) ?_;intro h hh;apply dv;refine rk [3,4,5,6] [] hh fun h hh=>?_;refine zk 5 2 6 true [.int .i64 m_.node,.int .i64 m_.port,.int .i64 m_.tag,.int .i64 m_.out,.int .i64 m_.back,.int .i64 m_.first] [3,4,5,6] hh fun h hh=>?_;apply dv;refine rk [3,4,5,6,8] [] hh fun h hh=>?_;obtain ⟨s_,H1,H⟩:=zad H;repeat apply dv
 refine cu [3,4,5,6,75] 4 (fun h bs=>(h 3=.ptr 0 0 3/\h 4=.ptr 1 0 3/\h 5=.cp [.int .i64 m_.node,.int .i64 m_.port,.int .i64 m_.tag,.int .i64 m_.out,.int .i64 m_.back,.int .i64 m_.first]/\h 6=.ptr 3 0 3/\h 75=.bool s_)/\bs=[.cells true 3 [zau n.nodes,zav n.links,zaw n.edges],.cells true 3 [.int .i64 c.version,zak c.tables,zah c.steps],.gone,.cells true 3 [.int .i64 0,.nils,.nils]]) ?_ ?_
 .skip;obtain ⟨r1,e1,H1⟩:=zad H1;rcases isb H1 with ⟨c2,H1⟩|⟨c2,H1⟩;rotate_left
  .skip;refine rkp [3,4,5,6,75] [] [.bool r1] (f3 hh c2 (zpf ax)) ?_ ?_
   .exact ⟨fc (f6 (zbj ax hx k m_.node (n.nodes.length:Int) r1 e1 ) (by first|rfl|simp only [c2])),trivial⟩
   clear hh h;intro h hh;cases H1;exact ce hh ⟨kq hh,rfl⟩
  obtain ⟨r12,e3,H1⟩:=zad H1;rcases isb H1 with ⟨c4,H1⟩|⟨c4,H1⟩;rotate_left
  .skip;refine rkp [3,4,5,6,75] [] [.bool r1,.bool r12] (f3 hh c2 (f3 c4 (zpf ax) (ztm ax))) ?_ ?_
   .exact ⟨fc (f6 (zbj ax hx k m_.node (n.nodes.length:Int) r1 e1 ) (by first|rfl|simp only [c2,c4])),fc (f6 (zbj ax hx k m_.out (n.links.length:Int) r12 e3 ) (by first|rfl|simp only [c2,c4])),trivial⟩
   clear hh h;intro h hh;cases H1;exact ce hh ⟨kq hh,rfl⟩
  obtain ⟨r13,e5,H1⟩:=zad H1;rcases isb H1 with ⟨c6,H1⟩|⟨c6,H1⟩;rotate_left
  .skip;refine rkp [3,4,5,6,75] [] [.bool r1,.bool r12,.bool r13] (f3 hh c2 (f3 c4 c6 (f3 (zpf ax) (ztm ax) (zwy ax)))) ?_ ?_
   .exact ⟨fc (f6 (zbj ax hx k m_.node (n.nodes.length:Int) r1 e1 ) (by first|rfl|simp only [c2,c4,c6])),fc (f6 (zbj ax hx k m_.out (n.links.length:Int) r12 e3 ) (by first|rfl|simp only [c2,c4,c6])),fc (f6 (zbj ax hx k m_.back (n.links.length:Int) r13 e5 ) (by first|rfl|simp only [c2,c4,c6])),trivial⟩
   clear hh h;intro h hh;cases H1;exact ce hh ⟨kq hh,rfl⟩
  obtain ⟨r14,e7,H1⟩:=zad H1;rcases isb H1 with ⟨c8,H1⟩|⟨c8,H1⟩;rotate_left
  .skip;refine rkp [3,4,5,6,75] [] [.bool r1,.bool r12,.bool r13,.bool r14] (f3 hh c2 (f3 c4 c6 (f3 c8 (zpf ax) (f3 (yh3 ax) (ztm ax) (zwy ax))))) ?_ ?_
   .exact ⟨fc (f6 (zbj ax hx k m_.node (n.nodes.length:Int) r1 e1 ) (by first|rfl|simp only [c2,c4,c6,c8])),fc (f6 (zbj ax hx k m_.out (n.links.length:Int) r12 e3 ) (by first|rfl|simp only [c2,c4,c6,c8])),fc (f6 (zbj ax hx k m_.back (n.links.length:Int) r13 e5 ) (by first|rfl|simp only [c2,c4,c6,c8])),fc (f6 (zbj ax hx k m_.port 65536 r14 e7 ) (by first|rfl|simp only [c2,c4,c6,c8])),trivial⟩
   clear hh h;intro h hh;cases H1;exact ce hh ⟨kq hh,rfl⟩
  obtain ⟨r15,e9,H1⟩:=zad H1;refine rkp [3,4,5,6,75] [] [.bool r1,.bool r12,.bool r13,.bool r14,.bool r15] (f3 hh c2 (f3 c4 c6 (f3 c8 (zpf ax) (f3 (yh3 ax) (ynj ax) (f2 (ztm ax) (zwy ax)))))) ?_ ?_
  .exact ⟨fc (f6 (zbj ax hx k m_.node (n.nodes.length:Int) r1 e1 ) (by first|rfl|simp only [c2,c4,c6,c8])),fc (f6 (zbj ax hx k m_.out (n.links.length:Int) r12 e3 ) (by first|rfl|simp only [c2,c4,c6,c8])),fc (f6 (zbj ax hx k m_.back (n.links.length:Int) r13 e5 ) (by first|rfl|simp only [c2,c4,c6,c8])),fc (f6 (zbj ax hx k m_.port 65536 r14 e7 ) (by first|rfl|simp only [c2,c4,c6,c8])),fc (f6 (zbj ax hx k m_.tag 65536 r15 e9 ) (by first|rfl|simp only [c2,c4,c6,c8])),trivial⟩
  clear hh h;intro h hh;cases H1;exact ce hh ⟨kq hh,rfl⟩
 clear hh h;rintro h bs ⟨hh,rfl⟩;rcases isb H with ⟨c10,H⟩|⟨c10,H⟩;rotate_left
 .skip;refine cf (f2 hh c10) ?_;refine sk ?_;obtain ⟨g11,H⟩:=isg H;obtain ⟨g12,H⟩:=isg H;apply dv;refine ds 12 [(9,some 4),(83,some 0),(85,none),(87,none)] [4,5,6,9,10] [] [] [] (f3 hh c10 (f3 (zaf g11) (zaf g12) (f2 (ztm ax) (zwy ax)))) trivial trivial fun h hh=>?_;refine zk 9 4 3 true [.int .i64 ((gx n.links m_.out).frm),.int .i64 ((gx n.links m_.out).to),.int .i64 ((gx n.links m_.out).cap)] [4,5,6,9,10] hh fun h hh=>?_;obtain ⟨s_2,H1,H⟩:=zad H;repeat apply dv
  refine cu [4,5,6,9,107] 6 (fun h bs=>(h 4=.ptr 1 0 3/\h 5=.cp [.int .i64 m_.node,.int .i64 m_.port,.int .i64 m_.tag,.int .i64 m_.out,.int .i64 m_.back,.int .i64 m_.first]/\h 6=.ptr 3 0 3/\h 9=.cp [.int .i64 ((gx n.links m_.out).frm),.int .i64 ((gx n.links m_.out).to),.int .i64 ((gx n.links m_.out).cap)]/\h 107=.bool s_2)/\bs=[.cells true 3 [zau n.nodes,zav n.links,zaw n.edges],.cells true 3 [.int .i64 c.version,zak c.tables,zah c.steps],.gone,.cells true 3 [.int .i64 0,.nils,.nils],.gone,.cells true 3 [.int .i64 ((gx n.links m_.back).frm),.int .i64 ((gx n.links m_.back).to),.int .i64 ((gx n.links m_.back).cap)]]) ?_ ?_
  .skip;rcases isp H1 with ⟨c13,H1⟩|⟨c13,H1⟩;rotate_left
   .skip;rcases isp H1 with ⟨c14,H1⟩|⟨c14,H1⟩;rotate_left
    .skip;refine rk [4,5,6,9,107] [] (f3 hh (zAb c13) (f3 (zAb c14) c10 (zpf ax))) fun h hh=>?_;cases H1;exact ce hh ⟨kq hh,rfl⟩
    refine rk [4,5,6,9,107] [] (f3 hh (zAb c13) (f3 (zAa c14) c10 (zpf ax))) fun h hh=>?_;cases H1;exact ce hh ⟨kq hh,rfl⟩
   refine rk [4,5,6,9,107] [] (f3 hh (zAa c13) (f2 c10 (zpf ax))) fun h hh=>?_;cases H1;exact ce hh ⟨kq hh,rfl⟩
  clear hh h;rintro h bs ⟨hh,rfl⟩;rcases isb H with ⟨c15,H⟩|⟨c15,H⟩;rotate_left
  .skip;refine cf (f2 hh c15) ?_;refine sk ?_;obtain ⟨g16,H⟩:=isg H;obtain ⟨g17,H⟩:=isg H;apply dv;refine dk 16 [4,5,6,9,11,12,13] [] [] [] (f3 hh c10 (f3 c15 (zaf g16) (f3 (zaf g17) (zpf ax) (f2 (yh3 ax) (ynj ax))))) trivial trivial fun h hh=>?_;refine zk 13 6 2 true [.int .i64 m_.port,.int .i64 m_.tag] [4,5,6,9,11,12,13] hh fun h hh=>?_;obtain ⟨aa,e18,H⟩:=zad H;apply dv;refine rkc [4,5,6,9,11,12,13,14,15] [] [(.tup [zgy aa.1,.bool aa.2],stL [.cells true 3 [zau n.nodes,zav n.links,zaw n.edges],.cells true 3 [.int .i64 c.version,zak c.tables,zah c.steps],.gone,.cells true 3 [.int .i64 0,.nils,.nils],.gone,.cells true 3 [.int .i64 ((gx n.links m_.back).frm),.int .i64 ((gx n.links m_.back).to),.int .i64 ((gx n.links m_.back).cap)],.gone])] (f3 hh c10 c15) ?_ ?_
   .exact ⟨fc (f6 (z3h ax hx k (gx c.tables m_.node) (⟨m_.port,m_.tag⟩:Spot) aa e18 ) (by first|rfl|simp only [c10,c15])),trivial⟩
   clear hh h;intro h hh;repeat apply dv
   refine rk [4,5,6,9,11,12,13,14,133] [] (f3 hh c10 c15) fun h hh=>?_;rcases isb H with ⟨c19,H⟩|⟨c19,H⟩;rotate_left
   .skip;refine ct (f2 hh c19) ?_;apply dv;refine rk [6,7] [] (f3 hh c10 (f3 c15 c19 (bt30 ax))) fun h hh=>?_;refine nz 3 1 1 ?_;refine nz 3 2 6 ?_;cases H;exact rtc hh
   refine cf (f2 hh c19) ?_;refine sk ?_;obtain ⟨ab,e20,H⟩:=zad H;apply dv;refine rkp [4,5,6,9,11,12,13,14,16,17] [] [.tup [zag ab.1,ints ab.2]] (f3 hh c10 (f2 c15 c19)) ?_ ?_
   .exact ⟨fc (f6 (zu7 ax hx k (gx c.tables m_.node) aa.1 ab e20 ) (by first|rfl|simp only [c10,c15,c19])),trivial⟩
   clear hh h;intro h hh;obtain ⟨s_3,H1,H⟩:=zad H;repeat apply dv
   refine cu [4,5,6,9,11,12,13,14,16,17,151] 8 (fun h bs=>(h 4=.ptr 1 0 3/\h 5=.cp [.int .i64 m_.node,.int .i64 m_.port,.int .i64 m_.tag,.int .i64 m_.out,.int .i64 m_.back,.int .i64 m_.first]/\h 6=.ptr 3 0 3/\h 9=.cp [.int .i64 ((gx n.links m_.out).frm),.int .i64 ((gx n.links m_.out).to),.int .i64 ((gx n.links m_.out).cap)]/\h 11=zag (gx c.tables m_.node)/\h 12=zag (gx c.tables ((gx n.links m_.out).to))/\h 13=.cp [.int .i64 m_.port,.int .i64 m_.tag]/\h 14=.ptr 7 0 3/\h 16=zag ab.1/\h 17=ints ab.2/\h 151=.bool s_3)/\bs=[.cells true 3 [zau n.nodes,zav n.links,zaw n.edges],.cells true 3 [.int .i64 c.version,zak c.tables,zah c.steps],.gone,.cells true 3 [.int .i64 0,.nils,.nils],.gone,.cells true 3 [.int .i64 ((gx n.links m_.back).frm),.int .i64 ((gx n.links m_.back).to),.int .i64 ((gx n.links m_.back).cap)],.gone,.cells true 3 [.int .i64 aa.1.port,.int .i64 aa.1.tag,ints aa.1.rules]]) ?_ ?_
   .skip;rcases isp H1 with ⟨c21,H1⟩|⟨c21,H1⟩;rotate_left
    .skip;refine rk [4,5,6,9,11,12,13,14,16,17,151] [] (f3 hh (zAb c21) (f3 c10 c15 (f2 c19 (ztl ax)))) fun h hh=>?_;cases H1;exact ce hh ⟨kq hh,rfl⟩
    refine rk [4,5,6,9,11,12,13,14,16,17,151] [] (f3 hh (zAa c21) (f3 c10 c15 (f2 c19 (ztl ax)))) fun h hh=>?_;cases H1;exact ce hh ⟨kq hh,rfl⟩
   clear hh h;rintro h bs ⟨hh,rfl⟩;rcases isb H with ⟨c22,H⟩|⟨c22,H⟩;rotate_left
   .skip;refine cf (f2 hh c22) ?_;refine sk ?_;obtain ⟨rb,e23,H⟩:=zad H;apply dv;refine rkp [4,5,6,9,11,12,13,14,16,17,18] [] [.bool rb] (f3 hh c10 (f3 c15 c19 (f3 c22 (ztm ax) (ztl ax)))) ?_ ?_
    .exact ⟨ca [] (zfg ax hx k (gx c.tables ((gx n.links m_.out).to)) (⟨m_.out,m_.first⟩:Spot) rb e23),trivial⟩
    clear hh h;intro h hh;repeat apply dv
    refine rk [4,5,6,9,11,12,13,14,16,17,18,162,163] [] (f3 hh c10 (f3 c15 c19 c22)) fun h hh=>?_;obtain ⟨s_4,H1,H⟩:=zad H;refine cu [4,5,6,9,11,12,13,14,16,17,18] 8 (fun h bs=>(h 4=.ptr 1 0 3/\h 5=.cp [.int .i64 m_.node,.int .i64 m_.port,.int .i64 m_.tag,.int .i64 m_.out,.int .i64 m_.back,.int .i64 m_.first]/\h 6=.ptr 3 0 3/\h 9=.cp [.int .i64 ((gx n.links m_.out).frm),.int .i64 ((gx n.links m_.out).to),.int .i64 ((gx n.links m_.out).cap)]/\h 11=zag (gx c.tables m_.node)/\h 12=zag (gx c.tables ((gx n.links m_.out).to))/\h 13=.cp [.int .i64 m_.port,.int .i64 m_.tag]/\h 14=.ptr 7 0 3/\h 16=zag ab.1/\h 17=ints ab.2/\h 18=.bool s_4)/\bs=[.cells true 3 [zau n.nodes,zav n.links,zaw n.edges],.cells true 3 [.int .i64 c.version,zak c.tables,zah c.steps],.gone,.cells true 3 [.int .i64 0,.nils,.nils],.gone,.cells true 3 [.int .i64 ((gx n.links m_.back).frm),.int .i64 ((gx n.links m_.back).to),.int .i64 ((gx n.links m_.back).cap)],.gone,.cells true 3 [.int .i64 aa.1.port,.int .i64 aa.1.tag,ints aa.1.rules]]) ?_ ?_
    .skip;apply ey;refine gt [4,5,6,9,11,12,13,14,16,17,18,162,163] (fun m h bs=>∃ (used:Bool) (i:Int),zet k c m_ ab m used i=some s_4/\(h 4=.ptr 1 0 3/\h 5=.cp [.int .i64 m_.node,.int .i64 m_.port,.int .i64 m_.tag,.int .i64 m_.out,.int .i64 m_.back,.int .i64 m_.first]/\h 6=.ptr 3 0 3/\h 9=.cp [.int .i64 ((gx n.links m_.out).frm),.int .i64 ((gx n.links m_.out).to),.int .i64 ((gx n.links m_.out).cap)]/\h 11=zag (gx c.tables m_.node)/\h 12=zag (gx c.tables ((gx n.links m_.out).to))/\h 13=.cp [.int .i64 m_.port,.int .i64 m_.tag]/\h 14=.ptr 7 0 3/\h 16=zag ab.1/\h 17=ints ab.2/\h 18=.bool used/\h 162=.int .i64 (ab.1.length:Int)/\h 163=.int .i64 i)/\bs=[.cells true 3 [zau n.nodes,zav n.links,zaw n.edges],.cells true 3 [.int .i64 c.version,zak c.tables,zah c.steps],.gone,.cells true 3 [.int .i64 0,.nils,.nils],.gone,.cells true 3 [.int .i64 ((gx n.links m_.back).frm),.int .i64 ((gx n.links m_.back).to),.int .i64 ((gx n.links m_.back).cap)],.gone,.cells true 3 [.int .i64 aa.1.port,.int .i64 aa.1.tag,ints aa.1.rules]]) ?_ k _ _ ?_;rotate_left
     .exact ⟨rb,0,H1,kq hh,rfl⟩
     clear hh h H1;rintro m h bs ⟨used,i,H1,hh,rfl⟩;rcases m with _|m
     .rw [zet] at H1;cases H1
     rw [zet] at H1;apply dv;refine rk [4,5,6,9,11,12,13,14,16,17,18,162,163,164] [] (f3 hh c10 (f3 c15 c19 c22)) fun h hh=>?_;rcases isp H1 with ⟨c24,H1⟩|⟨c24,H1⟩;rotate_left
     .skip;apply dv;refine cf (f2 hh (zAb c24)) ?_;refine xk ?_;cases H1;exact ce hh ⟨kq hh,rfl⟩
     apply dv;refine ct (f2 hh (zAa c24)) ?_;refine sk ?_;apply dv;apply ey;apply dv;refine rk [4,5,6,9,11,12,13,14,16,17,18,19,162,163] [] (f3 hh c10 (f3 c15 c19 c22)) fun h hh=>?_;rcases isb H1 with ⟨c25,H1⟩|⟨c25,H1⟩;rotate_left
     .skip;obtain ⟨rb2,e26,H1⟩:=zad H1;refine rkp [4,5,6,9,11,12,13,14,16,17,18,162,163] [] [.bool rb2] (f3 hh c25 (f3 c10 c15 (f3 c19 c22 (f2 (zwy ax) (ztl ax))))) ?_ ?_
      .exact ⟨ca [] (zfg ax hx k (gx c.tables m_.node) (⟨m_.back,dx.wrap ((dx.wrap (m_.first+1))+i)⟩:Spot) rb2 e26),trivial⟩
      clear hh h;intro h hh;refine rk [4,5,6,9,11,12,13,14,16,17,18,162,163] [] (f3 hh c10 (f3 c15 c19 (f2 c22 c25))) fun h hh=>?_;exact rd m hh ⟨rb2,(dx.wrap (i+1)),H1,kq hh,rfl⟩
     refine rk [4,5,6,9,11,12,13,14,16,17,18,162,163] [] (f3 hh c25 (f3 c10 c15 (f2 c19 c22))) fun h hh=>?_;refine rk [4,5,6,9,11,12,13,14,16,17,18,162,163] [] (f3 hh c10 (f3 c15 c19 (f2 c22 c25))) fun h hh=>?_;exact rd m hh ⟨true,(dx.wrap (i+1)),H1,kq hh,rfl⟩
    clear hh h;rintro h bs ⟨hh,rfl⟩;repeat apply dv
    refine rk [4,5,6,9,11,12,13,14,16,17,181] [] (f3 hh c10 (f3 c15 c19 c22)) fun h hh=>?_;rcases isb H with ⟨c27,H⟩|⟨c27,H⟩;rotate_left
    .skip;refine cf (f2 hh c27) ?_;refine sk ?_;obtain ⟨rb3,e28,H⟩:=zad H;obtain ⟨ai,e29,H⟩:=zad H;obtain ⟨bd,e30,H⟩:=zad H;obtain ⟨g31,H⟩:=isg H;apply dv;refine dcg 3 [5,13] [] [] [(.arr 8 23 0 rb3.2 rb3.2 (rb3.2*23),stL [.cells true 3 [zau n.nodes,zav n.links,zaw n.edges],.cells true 3 [.int .i64 c.version,zak c.tables,zah c.steps],.gone,.cells true 3 [.int .i64 0,.nils,.nils],.gone,.cells true 3 [.int .i64 ((gx n.links m_.back).frm),.int .i64 ((gx n.links m_.back).to),.int .i64 ((gx n.links m_.back).cap)],.gone,.cells true 3 [.int .i64 aa.1.port,.int .i64 aa.1.tag,ints aa.1.rules],.cells false (rb3.2*23) (vecC zai rb3.1)]),(ePat ai,stL [.cells true 3 [zau n.nodes,zav n.links,zaw n.edges],.cells true 3 [.int .i64 c.version,zak c.tables,zah c.steps],.gone,.cells true 3 [.int .i64 0,.nils,.nils],.gone,.cells true 3 [.int .i64 ((gx n.links m_.back).frm),.int .i64 ((gx n.links m_.back).to),.int .i64 ((gx n.links m_.back).cap)],.gone,.cells true 3 [.int .i64 aa.1.port,.int .i64 aa.1.tag,ints aa.1.rules],.cells false (rb3.2*23) (vecC zai rb3.1)]),(zbb bd,stL [.cells true 3 [zau n.nodes,zav n.links,zaw n.edges],.cells true 3 [.int .i64 c.version,zak c.tables,zah c.steps],.gone,.cells true 3 [.int .i64 0,.nils,.nils],.gone,.cells true 3 [.int .i64 ((gx n.links m_.back).frm),.int .i64 ((gx n.links m_.back).to),.int .i64 ((gx n.links m_.back).cap)],.gone,.cells true 3 [.int .i64 aa.1.port,.int .i64 aa.1.tag,ints aa.1.rules],.cells false (rb3.2*23) (vecC zai rb3.1)])] [.cells true 3 [zau n.nodes,zav n.links,zaw n.edges],.cells true 3 [.int .i64 c.version,zak c.tables,zah c.steps],.gone,.cells true 3 [.int .i64 0,.nils,.nils],.gone,.cells true 3 [.int .i64 ((gx n.links m_.back).frm),.int .i64 ((gx n.links m_.back).to),.int .i64 ((gx n.links m_.back).cap)],.gone,.cells true 3 [.int .i64 aa.1.port,.int .i64 aa.1.tag,ints aa.1.rules],.cells false ((rb3.2+1)*23) (vecC zai (rb3.1++[(⟨0,ai,(-1),bd⟩:Rule)]))] (fun h=>h 4=.ptr 1 0 3/\h 5=.cp [.int .i64 m_.node,.int .i64 m_.port,.int .i64 m_.tag,.int .i64 m_.out,.int .i64 m_.back,.int .i64 m_.first]/\h 6=.ptr 3 0 3/\h 9=.cp [.int .i64 ((gx n.links m_.out).frm),.int .i64 ((gx n.links m_.out).to),.int .i64 ((gx n.links m_.out).cap)]/\h 11=zag (gx c.tables m_.node)/\h 12=zag (gx c.tables ((gx n.links m_.out).to))/\h 13=.cp [.int .i64 m_.port,.int .i64 m_.tag]/\h 14=.ptr 7 0 3/\h 16=zag ab.1/\h 17=ints ab.2/\h 20=.arr 8 23 0 (rb3.2+1) (rb3.2+1) ((rb3.2+1)*23)) (f3 hh c10 (f3 c15 c19 (f3 c22 c27 (f3 ((show vecC zai [(⟨0,ai,(-1),bd⟩:Rule)]=(dy .i64 ((⟨0,ai,(-1),bd⟩:Rule).prio) :: ((((⟨0,ai,(-1),bd⟩:Rule).mat).mask).l.map (dy .i64)++((((⟨0,ai,(-1),bd⟩:Rule).mat).bits).l.map (dy .i64)++[dy .i64 ((⟨0,ai,(-1),bd⟩:Rule).step),zbb ((⟨0,ai,(-1),bd⟩:Rule).outs)]))) from zga.trans rfl)) (yda ax) (f3 (ztm ax) (ztl ax) (f3 (zr8 ax) (zr7 ax) (z1s ax))))))) trivial ?_ ?_
     .exact ⟨car [8] (zpk ax hx k (gx c.tables m_.node) aa.1.rules rb3 e28),fc (f6 (zdv ax hx k (⟨m_.port,m_.tag⟩:Spot) ai e29 ) (by first|rfl|simp only [c10,c15,c19,c22,c27])),fc (f6 (zsx ax hx k m_.out m_.first bd e30 ) (by first|rfl|simp only [c10,c15,c19,c22,c27])),trivial⟩
     clear hh h;intro h hh;obtain ⟨af,e32,H⟩:=zad H;apply dv;refine rkc [4,5,6,9,11,12,14,16,17,20,21] [] [(ePat af,stL [.cells true 3 [zau n.nodes,zav n.links,zaw n.edges],.cells true 3 [.int .i64 c.version,zak c.tables,zah c.steps],.gone,.cells true 3 [.int .i64 0,.nils,.nils],.gone,.cells true 3 [.int .i64 ((gx n.links m_.back).frm),.int .i64 ((gx n.links m_.back).to),.int .i64 ((gx n.links m_.back).cap)],.gone,.cells true 3 [.int .i64 aa.1.port,.int .i64 aa.1.tag,ints aa.1.rules],.cells false ((rb3.2+1)*23) (vecC zai (rb3.1++[(⟨0,ai,(-1),bd⟩:Rule)]))])] (f3 hh c10 (f3 c15 c19 (f2 c22 c27))) ?_ ?_
     .exact ⟨fc (f6 (zdv ax hx k (⟨m_.port,m_.tag⟩:Spot) af e32 ) (by first|rfl|simp only [c10,c15,c19,c22,c27])),trivial⟩
     clear hh h;intro h hh;repeat apply dv
     refine rk [4,5,6,9,11,12,14,17,20,21,199,200,201] [] (f3 hh c10 (f3 c15 c19 (f2 c22 c27))) fun h hh=>?_;obtain ⟨s_5,H1,H⟩:=zad H;refine cu [4,5,6,9,11,12,14,17,20] 10 (fun h bs=>(h 4=.ptr 1 0 3/\h 5=.cp [.int .i64 m_.node,.int .i64 m_.port,.int .i64 m_.tag,.int .i64 m_.out,.int .i64 m_.back,.int .i64 m_.first]/\h 6=.ptr 3 0 3/\h 9=.cp [.int .i64 ((gx n.links m_.out).frm),.int .i64 ((gx n.links m_.out).to),.int .i64 ((gx n.links m_.out).cap)]/\h 11=zag (gx c.tables m_.node)/\h 12=zag (gx c.tables ((gx n.links m_.out).to))/\h 14=.ptr 7 0 3/\h 17=ints ab.2/\h 20=.arr 8 23 0 s_5.2 s_5.2 (s_5.2*23))/\bs=[.cells true 3 [zau n.nodes,zav n.links,zaw n.edges],.cells true 3 [.int .i64 c.version,zak c.tables,zah c.steps],.gone,.cells true 3 [.int .i64 0,.nils,.nils],.gone,.cells true 3 [.int .i64 ((gx n.links m_.back).frm),.int .i64 ((gx n.links m_.back).to),.int .i64 ((gx n.links m_.back).cap)],.gone,.cells true 3 [.int .i64 aa.1.port,.int .i64 aa.1.tag,ints aa.1.rules],.cells false (s_5.2*23) (vecC zai s_5.1),.cells true 20 (af.mask.l.map (dy .i64)++(af.bits.l.map (dy .i64)))]) ?_ ?_
     .skip;apply ey;refine gt [4,5,6,9,11,12,14,17,20,21,199,200,201] (fun m h bs=>∃ (i2:Int) (l:List Rule) (n2:Nat),zes k m_ ab af m i2 l n2=some s_5/\(h 4=.ptr 1 0 3/\h 5=.cp [.int .i64 m_.node,.int .i64 m_.port,.int .i64 m_.tag,.int .i64 m_.out,.int .i64 m_.back,.int .i64 m_.first]/\h 6=.ptr 3 0 3/\h 9=.cp [.int .i64 ((gx n.links m_.out).frm),.int .i64 ((gx n.links m_.out).to),.int .i64 ((gx n.links m_.out).cap)]/\h 11=zag (gx c.tables m_.node)/\h 12=zag (gx c.tables ((gx n.links m_.out).to))/\h 14=.ptr 7 0 3/\h 17=ints ab.2/\h 20=.arr 8 23 0 n2 n2 (n2*23)/\h 21=.ptr 9 0 20/\h 199=zag ab.1/\h 200=.int .i64 (ab.1.length:Int)/\h 201=.int .i64 i2)/\bs=[.cells true 3 [zau n.nodes,zav n.links,zaw n.edges],.cells true 3 [.int .i64 c.version,zak c.tables,zah c.steps],.gone,.cells true 3 [.int .i64 0,.nils,.nils],.gone,.cells true 3 [.int .i64 ((gx n.links m_.back).frm),.int .i64 ((gx n.links m_.back).to),.int .i64 ((gx n.links m_.back).cap)],.gone,.cells true 3 [.int .i64 aa.1.port,.int .i64 aa.1.tag,ints aa.1.rules],.cells false (n2*23) (vecC zai l),.cells true 20 (af.mask.l.map (dy .i64)++(af.bits.l.map (dy .i64)))]) ?_ k _ _ ?_;rotate_left
      .exact ⟨0,(rb3.1++[(⟨0,ai,(-1),bd⟩:Rule)]),(rb3.2+1),H1,kq hh,rfl⟩
      clear hh h H1;rintro m h bs ⟨i2,l,n2,H1,hh,rfl⟩;rcases m with _|m
      .rw [zes] at H1;cases H1
      rw [zes] at H1;apply dv;refine rk [4,5,6,9,11,12,14,17,20,21,199,200,201,202] [] (f3 hh c10 (f3 c15 c19 (f2 c22 c27))) fun h hh=>?_;rcases isp H1 with ⟨c33,H1⟩|⟨c33,H1⟩;rotate_left
      .skip;apply dv;refine cf (f2 hh (zAb c33)) ?_;refine xk ?_;cases H1;exact ce hh ⟨kq hh,rfl⟩
      apply dv;refine ct (f2 hh (zAa c33)) ?_;refine sk ?_;obtain ⟨s_6,H2,H1⟩:=zad H1;apply dv;refine cu [4,5,6,9,11,12,14,17,20,21,199,200,201] 10 (fun h bs=>(h 4=.ptr 1 0 3/\h 5=.cp [.int .i64 m_.node,.int .i64 m_.port,.int .i64 m_.tag,.int .i64 m_.out,.int .i64 m_.back,.int .i64 m_.first]/\h 6=.ptr 3 0 3/\h 9=.cp [.int .i64 ((gx n.links m_.out).frm),.int .i64 ((gx n.links m_.out).to),.int .i64 ((gx n.links m_.out).cap)]/\h 11=zag (gx c.tables m_.node)/\h 12=zag (gx c.tables ((gx n.links m_.out).to))/\h 14=.ptr 7 0 3/\h 17=ints ab.2/\h 20=.arr 8 23 0 (n2+1) (n2+1) ((n2+1)*23)/\h 21=.ptr 9 0 20/\h 199=zag ab.1/\h 200=.int .i64 (ab.1.length:Int)/\h 201=.int .i64 i2)/\bs=[.cells true 3 [zau n.nodes,zav n.links,zaw n.edges],.cells true 3 [.int .i64 c.version,zak c.tables,zah c.steps],.gone,.cells true 3 [.int .i64 0,.nils,.nils],.gone,.cells true 3 [.int .i64 ((gx n.links m_.back).frm),.int .i64 ((gx n.links m_.back).to),.int .i64 ((gx n.links m_.back).cap)],.gone,.cells true 3 [.int .i64 aa.1.port,.int .i64 aa.1.tag,ints aa.1.rules],.cells false ((n2+1)*23) (vecC zai s_6),.cells true 20 (af.mask.l.map (dy .i64)++(af.bits.l.map (dy .i64)))]) ?_ ?_
      .skip;apply ey;obtain ⟨g34,H2⟩:=isg H2;apply dv;refine rk [4,5,6,9,11,12,14,17,20,21,22,23,199,200,201] [] (f3 hh c10 (f3 c15 c19 (f3 c22 c27 (zaf g34)))) fun h hh=>?_;apply dv;refine rk [4,5,6,9,11,12,14,17,20,21,22,23,24,199,200,201] [] (f3 hh c10 (f3 c15 c19 (f2 c22 c27))) fun h hh=>?_;refine vk 24 1 [4,5,6,9,11,12,14,17,20,21,22,23,24,199,200,201] hh fun h hh=>?_;repeat apply dv
       refine rk [4,5,6,9,11,12,14,17,20,21,22,23,24,199,200,201,207,208,209] [] (f3 hh c10 (f3 c15 c19 (f2 c22 c27))) fun h hh=>?_;obtain ⟨s_7,H3,H2⟩:=zad H2;refine cu [4,5,6,9,11,12,14,17,20,21,22,23,24,199,200,201] 12 (fun h bs=>(h 4=.ptr 1 0 3/\h 5=.cp [.int .i64 m_.node,.int .i64 m_.port,.int .i64 m_.tag,.int .i64 m_.out,.int .i64 m_.back,.int .i64 m_.first]/\h 6=.ptr 3 0 3/\h 9=.cp [.int .i64 ((gx n.links m_.out).frm),.int .i64 ((gx n.links m_.out).to),.int .i64 ((gx n.links m_.out).cap)]/\h 11=zag (gx c.tables m_.node)/\h 12=zag (gx c.tables ((gx n.links m_.out).to))/\h 14=.ptr 7 0 3/\h 17=ints ab.2/\h 20=.arr 8 23 0 n2 n2 (n2*23)/\h 21=.ptr 9 0 20/\h 22=.int .i64 i2/\h 23=.ptr 10 0 23/\h 24=.arr 11 1 0 s_7.2 s_7.2 s_7.2/\h 199=zag ab.1/\h 200=.int .i64 (ab.1.length:Int)/\h 201=.int .i64 i2)/\bs=[.cells true 3 [zau n.nodes,zav n.links,zaw n.edges],.cells true 3 [.int .i64 c.version,zak c.tables,zah c.steps],.gone,.cells true 3 [.int .i64 0,.nils,.nils],.gone,.cells true 3 [.int .i64 ((gx n.links m_.back).frm),.int .i64 ((gx n.links m_.back).to),.int .i64 ((gx n.links m_.back).cap)],.gone,.cells true 3 [.int .i64 aa.1.port,.int .i64 aa.1.tag,ints aa.1.rules],.cells false (n2*23) (vecC zai l),.cells true 20 (af.mask.l.map (dy .i64)++(af.bits.l.map (dy .i64))),.cells true 23 (dy .i64 ((gx ab.1 i2).prio) :: ((((gx ab.1 i2).mat).mask).l.map (dy .i64)++((((gx ab.1 i2).mat).bits).l.map (dy .i64)++[dy .i64 ((gx ab.1 i2).step),zbb ((gx ab.1 i2).outs)]))),.cells false s_7.2 (s_7.1.map lAlt)]) ?_ ?_
       .skip;apply ey;refine gt [4,5,6,9,11,12,14,17,20,21,22,23,24,199,200,201,207,208,209] (fun m h bs=>∃ (i3:Int) (l2:List (List Alt)) (n3:Nat),zer k ab af i2 m i3 l2 n3=some s_7/\(h 4=.ptr 1 0 3/\h 5=.cp [.int .i64 m_.node,.int .i64 m_.port,.int .i64 m_.tag,.int .i64 m_.out,.int .i64 m_.back,.int .i64 m_.first]/\h 6=.ptr 3 0 3/\h 9=.cp [.int .i64 ((gx n.links m_.out).frm),.int .i64 ((gx n.links m_.out).to),.int .i64 ((gx n.links m_.out).cap)]/\h 11=zag (gx c.tables m_.node)/\h 12=zag (gx c.tables ((gx n.links m_.out).to))/\h 14=.ptr 7 0 3/\h 17=ints ab.2/\h 20=.arr 8 23 0 n2 n2 (n2*23)/\h 21=.ptr 9 0 20/\h 22=.int .i64 i2/\h 23=.ptr 10 0 23/\h 24=.arr 11 1 0 n3 n3 n3/\h 199=zag ab.1/\h 200=.int .i64 (ab.1.length:Int)/\h 201=.int .i64 i2/\h 207=zbb ((gx ab.1 i2).outs)/\h 208=.int .i64 (((gx ab.1 i2).outs).length:Int)/\h 209=.int .i64 i3)/\bs=[.cells true 3 [zau n.nodes,zav n.links,zaw n.edges],.cells true 3 [.int .i64 c.version,zak c.tables,zah c.steps],.gone,.cells true 3 [.int .i64 0,.nils,.nils],.gone,.cells true 3 [.int .i64 ((gx n.links m_.back).frm),.int .i64 ((gx n.links m_.back).to),.int .i64 ((gx n.links m_.back).cap)],.gone,.cells true 3 [.int .i64 aa.1.port,.int .i64 aa.1.tag,ints aa.1.rules],.cells false (n2*23) (vecC zai l),.cells true 20 (af.mask.l.map (dy .i64)++(af.bits.l.map (dy .i64))),.cells true 23 (dy .i64 ((gx ab.1 i2).prio) :: ((((gx ab.1 i2).mat).mask).l.map (dy .i64)++((((gx ab.1 i2).mat).bits).l.map (dy .i64)++[dy .i64 ((gx ab.1 i2).step),zbb ((gx ab.1 i2).outs)]))),.cells false n3 (l2.map lAlt)]) ?_ k _ _ ?_;rotate_left
        .exact ⟨0,[],0,H3,kq hh,rfl⟩
        clear hh h H3;rintro m h bs ⟨i3,l2,n3,H3,hh,rfl⟩;rcases m with _|m
        .rw [zer] at H3;cases H3
        rw [zer] at H3;apply dv;refine rk [4,5,6,9,11,12,14,17,20,21,22,23,24,199,200,201,207,208,209,210] [] (f3 hh c10 (f3 c15 c19 (f2 c22 c27))) fun h hh=>?_;rcases isp H3 with ⟨c35,H3⟩|⟨c35,H3⟩;rotate_left
        .skip;apply dv;refine cf (f2 hh (zAb c35)) ?_;refine xk ?_;cases H3;exact ce hh ⟨kq hh,rfl⟩
        apply dv;refine ct (f2 hh (zAa c35)) ?_;refine sk ?_;obtain ⟨s_8,H4,H3⟩:=zad H3;apply dv;refine cu [4,5,6,9,11,12,14,17,20,21,22,23,24,199,200,201,207,208,209] 12 (fun h bs=>(h 4=.ptr 1 0 3/\h 5=.cp [.int .i64 m_.node,.int .i64 m_.port,.int .i64 m_.tag,.int .i64 m_.out,.int .i64 m_.back,.int .i64 m_.first]/\h 6=.ptr 3 0 3/\h 9=.cp [.int .i64 ((gx n.links m_.out).frm),.int .i64 ((gx n.links m_.out).to),.int .i64 ((gx n.links m_.out).cap)]/\h 11=zag (gx c.tables m_.node)/\h 12=zag (gx c.tables ((gx n.links m_.out).to))/\h 14=.ptr 7 0 3/\h 17=ints ab.2/\h 20=.arr 8 23 0 n2 n2 (n2*23)/\h 21=.ptr 9 0 20/\h 22=.int .i64 i2/\h 23=.ptr 10 0 23/\h 24=.arr 11 1 0 (n3+1) (n3+1) (n3+1)/\h 199=zag ab.1/\h 200=.int .i64 (ab.1.length:Int)/\h 201=.int .i64 i2/\h 207=zbb ((gx ab.1 i2).outs)/\h 208=.int .i64 (((gx ab.1 i2).outs).length:Int)/\h 209=.int .i64 i3)/\bs=[.cells true 3 [zau n.nodes,zav n.links,zaw n.edges],.cells true 3 [.int .i64 c.version,zak c.tables,zah c.steps],.gone,.cells true 3 [.int .i64 0,.nils,.nils],.gone,.cells true 3 [.int .i64 ((gx n.links m_.back).frm),.int .i64 ((gx n.links m_.back).to),.int .i64 ((gx n.links m_.back).cap)],.gone,.cells true 3 [.int .i64 aa.1.port,.int .i64 aa.1.tag,ints aa.1.rules],.cells false (n2*23) (vecC zai l),.cells true 20 (af.mask.l.map (dy .i64)++(af.bits.l.map (dy .i64))),.cells true 23 (dy .i64 ((gx ab.1 i2).prio) :: ((((gx ab.1 i2).mat).mask).l.map (dy .i64)++((((gx ab.1 i2).mat).bits).l.map (dy .i64)++[dy .i64 ((gx ab.1 i2).step),zbb ((gx ab.1 i2).outs)]))),.cells false (n3+1) (s_8.map lAlt)]) ?_ ?_
        .skip;apply ey;obtain ⟨g36,H4⟩:=isg H4;apply dv;refine rk [4,5,6,9,11,12,14,17,20,21,22,23,24,26,199,200,201,207,208,209] [] (f3 hh c10 (f3 c15 c19 (f3 c22 c27 (zaf g36)))) fun h hh=>?_;obtain ⟨g37,H4⟩:=isg H4;apply dv;refine rkc [4,5,6,9,11,12,14,17,20,21,22,23,24,27,199,200,201,207,208,209] [] [(.arr 12 21 0 ((gx ((gx ab.1 i2).outs) i3).length) ((gx ((gx ab.1 i2).outs) i3).length) (((gx ((gx ab.1 i2).outs) i3).length)*21),stL [.cells true 3 [zau n.nodes,zav n.links,zaw n.edges],.cells true 3 [.int .i64 c.version,zak c.tables,zah c.steps],.gone,.cells true 3 [.int .i64 0,.nils,.nils],.gone,.cells true 3 [.int .i64 ((gx n.links m_.back).frm),.int .i64 ((gx n.links m_.back).to),.int .i64 ((gx n.links m_.back).cap)],.gone,.cells true 3 [.int .i64 aa.1.port,.int .i64 aa.1.tag,ints aa.1.rules],.cells false (n2*23) (vecC zai l),.cells true 20 (af.mask.l.map (dy .i64)++(af.bits.l.map (dy .i64))),.cells true 23 (dy .i64 ((gx ab.1 i2).prio) :: ((((gx ab.1 i2).mat).mask).l.map (dy .i64)++((((gx ab.1 i2).mat).bits).l.map (dy .i64)++[dy .i64 ((gx ab.1 i2).step),zbb ((gx ab.1 i2).outs)]))),.cells false n3 (l2.map lAlt),.cells false (((gx ((gx ab.1 i2).outs) i3).length)*21) (vecC eAlt (gx ((gx ab.1 i2).outs) i3))])] (f3 hh c10 (f3 c15 c19 (f2 c22 c27))) ?_ ?_
         .exact ⟨(by have q:=rp (zxx ax hx (gx ((gx ab.1 i2).outs) i3) g37) (by simp only [zbw,idsA,idsB,idsC,ef]) (by simp only [zbw,idsA,idsB,idsC,ef]) [.cells true 3 [zau n.nodes,zav n.links,zaw n.edges],.cells true 3 [.int .i64 c.version,zak c.tables,zah c.steps],.gone,.cells true 3 [.int .i64 0,.nils,.nils],.gone,.cells true 3 [.int .i64 ((gx n.links m_.back).frm),.int .i64 ((gx n.links m_.back).to),.int .i64 ((gx n.links m_.back).cap)],.gone,.cells true 3 [.int .i64 aa.1.port,.int .i64 aa.1.tag,ints aa.1.rules],.cells false (n2*23) (vecC zai l),.cells true 20 (af.mask.l.map (dy .i64)++(af.bits.l.map (dy .i64))),.cells true 23 (dy .i64 ((gx ab.1 i2).prio) :: ((((gx ab.1 i2).mat).mask).l.map (dy .i64)++((((gx ab.1 i2).mat).bits).l.map (dy .i64)++[dy .i64 ((gx ab.1 i2).step),zbb ((gx ab.1 i2).outs)]))),.cells false n3 (l2.map lAlt)];(try simp only [c10,c15,c19,c22,c27] at q);exact q),trivial⟩
         clear hh h;intro h hh;repeat apply dv
         refine rk [4,5,6,9,11,12,14,17,20,21,22,23,24,27,199,200,201,207,208,209,215,216,217] [] (f3 hh c10 (f3 c15 c19 (f2 c22 c27))) fun h hh=>?_;obtain ⟨s_9,H5,H4⟩:=zad H4;refine cu [4,5,6,9,11,12,14,17,20,21,22,23,24,27,199,200,201,207,208,209] 13 (fun h bs=>(h 4=.ptr 1 0 3/\h 5=.cp [.int .i64 m_.node,.int .i64 m_.port,.int .i64 m_.tag,.int .i64 m_.out,.int .i64 m_.back,.int .i64 m_.first]/\h 6=.ptr 3 0 3/\h 9=.cp [.int .i64 ((gx n.links m_.out).frm),.int .i64 ((gx n.links m_.out).to),.int .i64 ((gx n.links m_.out).cap)]/\h 11=zag (gx c.tables m_.node)/\h 12=zag (gx c.tables ((gx n.links m_.out).to))/\h 14=.ptr 7 0 3/\h 17=ints ab.2/\h 20=.arr 8 23 0 n2 n2 (n2*23)/\h 21=.ptr 9 0 20/\h 22=.int .i64 i2/\h 23=.ptr 10 0 23/\h 24=.arr 11 1 0 n3 n3 n3/\h 27=.arr 12 21 0 ((gx ((gx ab.1 i2).outs) i3).length) ((gx ((gx ab.1 i2).outs) i3).length) (((gx ((gx ab.1 i2).outs) i3).length)*21)/\h 199=zag ab.1/\h 200=.int .i64 (ab.1.length:Int)/\h 201=.int .i64 i2/\h 207=zbb ((gx ab.1 i2).outs)/\h 208=.int .i64 (((gx ab.1 i2).outs).length:Int)/\h 209=.int .i64 i3)/\bs=[.cells true 3 [zau n.nodes,zav n.links,zaw n.edges],.cells true 3 [.int .i64 c.version,zak c.tables,zah c.steps],.gone,.cells true 3 [.int .i64 0,.nils,.nils],.gone,.cells true 3 [.int .i64 ((gx n.links m_.back).frm),.int .i64 ((gx n.links m_.back).to),.int .i64 ((gx n.links m_.back).cap)],.gone,.cells true 3 [.int .i64 aa.1.port,.int .i64 aa.1.tag,ints aa.1.rules],.cells false (n2*23) (vecC zai l),.cells true 20 (af.mask.l.map (dy .i64)++(af.bits.l.map (dy .i64))),.cells true 23 (dy .i64 ((gx ab.1 i2).prio) :: ((((gx ab.1 i2).mat).mask).l.map (dy .i64)++((((gx ab.1 i2).mat).bits).l.map (dy .i64)++[dy .i64 ((gx ab.1 i2).step),zbb ((gx ab.1 i2).outs)]))),.cells false n3 (l2.map lAlt),.cells false (((gx ((gx ab.1 i2).outs) i3).length)*21) (vecC eAlt s_9)]) ?_ ?_
         .skip;apply ey;refine gt [4,5,6,9,11,12,14,17,20,21,22,23,24,27,199,200,201,207,208,209,215,216,217] (fun m h bs=>∃ (i4:Int) (l3:List Alt),zfk k ab af i2 i3 m i4 l3=some s_9/\(h 4=.ptr 1 0 3/\h 5=.cp [.int .i64 m_.node,.int .i64 m_.port,.int .i64 m_.tag,.int .i64 m_.out,.int .i64 m_.back,.int .i64 m_.first]/\h 6=.ptr 3 0 3/\h 9=.cp [.int .i64 ((gx n.links m_.out).frm),.int .i64 ((gx n.links m_.out).to),.int .i64 ((gx n.links m_.out).cap)]/\h 11=zag (gx c.tables m_.node)/\h 12=zag (gx c.tables ((gx n.links m_.out).to))/\h 14=.ptr 7 0 3/\h 17=ints ab.2/\h 20=.arr 8 23 0 n2 n2 (n2*23)/\h 21=.ptr 9 0 20/\h 22=.int .i64 i2/\h 23=.ptr 10 0 23/\h 24=.arr 11 1 0 n3 n3 n3/\h 27=.arr 12 21 0 ((gx ((gx ab.1 i2).outs) i3).length) ((gx ((gx ab.1 i2).outs) i3).length) (((gx ((gx ab.1 i2).outs) i3).length)*21)/\h 199=zag ab.1/\h 200=.int .i64 (ab.1.length:Int)/\h 201=.int .i64 i2/\h 207=zbb ((gx ab.1 i2).outs)/\h 208=.int .i64 (((gx ab.1 i2).outs).length:Int)/\h 209=.int .i64 i3/\h 215=.arr 12 21 0 ((gx ((gx ab.1 i2).outs) i3).length) ((gx ((gx ab.1 i2).outs) i3).length) (((gx ((gx ab.1 i2).outs) i3).length)*21)/\h 216=.int .i64 (((gx ((gx ab.1 i2).outs) i3).length):Int)/\h 217=.int .i64 i4)/\bs=[.cells true 3 [zau n.nodes,zav n.links,zaw n.edges],.cells true 3 [.int .i64 c.version,zak c.tables,zah c.steps],.gone,.cells true 3 [.int .i64 0,.nils,.nils],.gone,.cells true 3 [.int .i64 ((gx n.links m_.back).frm),.int .i64 ((gx n.links m_.back).to),.int .i64 ((gx n.links m_.back).cap)],.gone,.cells true 3 [.int .i64 aa.1.port,.int .i64 aa.1.tag,ints aa.1.rules],.cells false (n2*23) (vecC zai l),.cells true 20 (af.mask.l.map (dy .i64)++(af.bits.l.map (dy .i64))),.cells true 23 (dy .i64 ((gx ab.1 i2).prio) :: ((((gx ab.1 i2).mat).mask).l.map (dy .i64)++((((gx ab.1 i2).mat).bits).l.map (dy .i64)++[dy .i64 ((gx ab.1 i2).step),zbb ((gx ab.1 i2).outs)]))),.cells false n3 (l2.map lAlt),.cells false (((gx ((gx ab.1 i2).outs) i3).length)*21) (vecC eAlt l3)]) ?_ k _ _ ?_;rotate_left
          .exact ⟨0,(gx ((gx ab.1 i2).outs) i3),H5,kq hh,rfl⟩
          clear hh h H5;rintro m h bs ⟨i4,l3,H5,hh,rfl⟩;rcases m with _|m
          .rw [zfk] at H5;cases H5
          rw [zfk] at H5;apply dv;refine rk [4,5,6,9,11,12,14,17,20,21,22,23,24,27,199,200,201,207,208,209,215,216,217,218] [] (f3 hh c10 (f3 c15 c19 (f2 c22 c27))) fun h hh=>?_;rcases isp H5 with ⟨c38,H5⟩|⟨c38,H5⟩;rotate_left
          .skip;apply dv;refine cf (f2 hh (zAb c38)) ?_;refine xk ?_;cases H5;exact ce hh ⟨kq hh,rfl⟩
          apply dv;refine ct (f2 hh (zAa c38)) ?_;refine sk ?_;apply dv;apply ey;obtain ⟨g39,H5⟩:=isg H5;obtain ⟨g40,H5⟩:=isg H5;apply dv;refine rk [4,5,6,9,11,12,14,17,20,21,22,23,24,27,28,29,199,200,201,207,208,209,215,216,217] [] (f3 hh c10 (f3 c15 c19 (f3 c22 c27 (f2 (yjv eAlt 21 (fun x=>zca x) g40) (zhv (f:=eAlt) (e:=21) (fun x=>zca x) l3))))) fun h hh=>?_;obtain ⟨ap,e41,H5⟩:=zad H5;refine rkc [4,5,6,9,11,12,14,17,20,21,22,23,24,27,199,200,201,207,208,209,215,216,217] [] [(ePat ap,stL [.cells true 3 [zau n.nodes,zav n.links,zaw n.edges],.cells true 3 [.int .i64 c.version,zak c.tables,zah c.steps],.gone,.cells true 3 [.int .i64 0,.nils,.nils],.gone,.cells true 3 [.int .i64 ((gx n.links m_.back).frm),.int .i64 ((gx n.links m_.back).to),.int .i64 ((gx n.links m_.back).cap)],.gone,.cells true 3 [.int .i64 aa.1.port,.int .i64 aa.1.tag,ints aa.1.rules],.cells false (n2*23) (vecC zai l),.cells true 20 (af.mask.l.map (dy .i64)++(af.bits.l.map (dy .i64))),.cells true 23 (dy .i64 ((gx ab.1 i2).prio) :: ((((gx ab.1 i2).mat).mask).l.map (dy .i64)++((((gx ab.1 i2).mat).bits).l.map (dy .i64)++[dy .i64 ((gx ab.1 i2).step),zbb ((gx ab.1 i2).outs)]))),.cells false n3 (l2.map lAlt),.cells false (((gx ((gx ab.1 i2).outs) i3).length)*21) (vecC eAlt l3),.cells true 21 (dy .i64 ((l3.getD i4.toNat default).link) :: ((((l3.getD i4.toNat default).mod).mask).l.map (dy .i64)++((((l3.getD i4.toNat default).mod).bits).l.map (dy .i64))))])] (f3 hh c10 (f3 c15 c19 (f3 c22 c27 (ypf ap g40)))) ?_ ?_
          .exact ⟨fc (f6 (zqp ax hx k af ((l3.getD i4.toNat default).mod) ap e41 ) (by first|rfl|simp only [c10,c15,c19,c22,c27])),trivial⟩
          clear hh h;intro h hh;refine rk [4,5,6,9,11,12,14,17,20,21,22,23,24,27,199,200,201,207,208,209,215,216,217] [] (f3 hh c10 (f3 c15 c19 (f2 c22 c27))) fun h hh=>?_;exact rd m hh ⟨(dx.wrap (i4+1)),(l3.set i4.toNat ({ l3.getD i4.toNat default with mod:=ap })),H5,kq hh,rfl⟩
         clear hh h;rintro h bs ⟨hh,rfl⟩;obtain ⟨g42,H4⟩:=isg H4;refine lw 27 (b:=12) (e:=21) (off:=0) (len:=((gx ((gx ab.1 i2).outs) i3).length)) (cap:=((gx ((gx ab.1 i2).outs) i3).length)) (M:=(((gx ((gx ab.1 i2).outs) i3).length)*21)) (s_9.map eAlt) (kq hh) (by rfl) (by omega) (by omega) (by rw [fl];exact zgd (e:=21) (fun x=>zca x) g42) (fun t ht=>by obtain ⟨x,_,rfl⟩:=ic.1 ht;first|rfl|exact zg2 _|exact ze3 _|exact zca _|exact zbc _ | (rw [ed];rfl)) (by rw [ed]<;>exact g42) (by omega) ?_;rw [zgb _ _ _ (by simp only [lzA]<;>omega)];simp only [scA];refine gk [4,5,6,9,11,12,14,17,20,21,22,23,24,27,199,200,201,207,208,209] hh fun h hh=>?_;obtain ⟨g43,H4⟩:=isg H4;refine rg [] [] [.cells true 3 [zau n.nodes,zav n.links,zaw n.edges],.cells true 3 [.int .i64 c.version,zak c.tables,zah c.steps],.gone,.cells true 3 [.int .i64 0,.nils,.nils],.gone,.cells true 3 [.int .i64 ((gx n.links m_.back).frm),.int .i64 ((gx n.links m_.back).to),.int .i64 ((gx n.links m_.back).cap)],.gone,.cells true 3 [.int .i64 aa.1.port,.int .i64 aa.1.tag,ints aa.1.rules],.cells false (n2*23) (vecC zai l),.cells true 20 (af.mask.l.map (dy .i64)++(af.bits.l.map (dy .i64))),.cells true 23 (dy .i64 ((gx ab.1 i2).prio) :: ((((gx ab.1 i2).mat).mask).l.map (dy .i64)++((((gx ab.1 i2).mat).bits).l.map (dy .i64)++[dy .i64 ((gx ab.1 i2).step),zbb ((gx ab.1 i2).outs)]))),.cells false (n3+1) ((l2++[s_9]).map lAlt),.gone] (fun h=>h 4=.ptr 1 0 3/\h 5=.cp [.int .i64 m_.node,.int .i64 m_.port,.int .i64 m_.tag,.int .i64 m_.out,.int .i64 m_.back,.int .i64 m_.first]/\h 6=.ptr 3 0 3/\h 9=.cp [.int .i64 ((gx n.links m_.out).frm),.int .i64 ((gx n.links m_.out).to),.int .i64 ((gx n.links m_.out).cap)]/\h 11=zag (gx c.tables m_.node)/\h 12=zag (gx c.tables ((gx n.links m_.out).to))/\h 14=.ptr 7 0 3/\h 17=ints ab.2/\h 20=.arr 8 23 0 n2 n2 (n2*23)/\h 21=.ptr 9 0 20/\h 22=.int .i64 i2/\h 23=.ptr 10 0 23/\h 24=.arr 11 1 0 (n3+1) (n3+1) (n3+1)/\h 199=zag ab.1/\h 200=.int .i64 (ab.1.length:Int)/\h 201=.int .i64 i2/\h 207=zbb ((gx ab.1 i2).outs)/\h 208=.int .i64 (((gx ab.1 i2).outs).length:Int)/\h 209=.int .i64 i3) (f3 hh c10 (f3 c15 c19 (f3 c22 c27 (yrb ax)))) trivial fun h hh=>?_;cases H4;exact ce hh ⟨kq hh,rfl⟩
        clear hh h;rintro h bs ⟨hh,rfl⟩;refine rk [4,5,6,9,11,12,14,17,20,21,22,23,24,199,200,201,207,208,209] [] (f3 hh c10 (f3 c15 c19 (f2 c22 c27))) fun h hh=>?_;exact rd m hh ⟨(dx.wrap (i3+1)),s_8,(n3+1),H3,kq hh,rfl⟩
       clear hh h;rintro h bs ⟨hh,rfl⟩;obtain ⟨bp,e44,H2⟩:=zad H2;obtain ⟨g45,H2⟩:=isg H2;refine lw 24 (b:=11) (e:=1) (off:=0) (len:=s_7.2) (cap:=s_7.2) (M:=s_7.2) (s_7.1.map lAlt) (kq hh) (by rfl) (by omega) (by omega) (by rw [fl,qo,zfc (fun _=>rfl),fx (by rw [ed];omega)]) (fun t ht=>by obtain ⟨x,_,rfl⟩:=ic.1 ht;first|rfl|exact zg2 _|exact ze3 _|exact zca _|exact zbc _ | (rw [ed];rfl)) (by rw [ed]<;>exact g45) (by omega) ?_;rw [zgb _ _ _ (by simp only [lzA]<;>omega)];simp only [scA];refine gk [4,5,6,9,11,12,14,17,20,21,22,23,24,199,200,201] hh fun h hh=>?_;obtain ⟨g46,H2⟩:=isg H2;refine dg 12 [ePat bp] [] [] [.cells true 3 [zau n.nodes,zav n.links,zaw n.edges],.cells true 3 [.int .i64 c.version,zak c.tables,zah c.steps],.gone,.cells true 3 [.int .i64 0,.nils,.nils],.gone,.cells true 3 [.int .i64 ((gx n.links m_.back).frm),.int .i64 ((gx n.links m_.back).to),.int .i64 ((gx n.links m_.back).cap)],.gone,.cells true 3 [.int .i64 aa.1.port,.int .i64 aa.1.tag,ints aa.1.rules],.cells false ((n2+1)*23) (vecC zai (l++[(⟨0,bp,(gx ab.1 i2).step,s_7.1⟩:Rule)])),.cells true 20 (af.mask.l.map (dy .i64)++(af.bits.l.map (dy .i64))),.cells true 23 (dy .i64 ((gx ab.1 i2).prio) :: ((((gx ab.1 i2).mat).mask).l.map (dy .i64)++((((gx ab.1 i2).mat).bits).l.map (dy .i64)++[dy .i64 ((gx ab.1 i2).step),zbb ((gx ab.1 i2).outs)]))),.gone] (fun h=>h 4=.ptr 1 0 3/\h 5=.cp [.int .i64 m_.node,.int .i64 m_.port,.int .i64 m_.tag,.int .i64 m_.out,.int .i64 m_.back,.int .i64 m_.first]/\h 6=.ptr 3 0 3/\h 9=.cp [.int .i64 ((gx n.links m_.out).frm),.int .i64 ((gx n.links m_.out).to),.int .i64 ((gx n.links m_.out).cap)]/\h 11=zag (gx c.tables m_.node)/\h 12=zag (gx c.tables ((gx n.links m_.out).to))/\h 14=.ptr 7 0 3/\h 17=ints ab.2/\h 20=.arr 8 23 0 (n2+1) (n2+1) ((n2+1)*23)/\h 21=.ptr 9 0 20/\h 199=zag ab.1/\h 200=.int .i64 (ab.1.length:Int)/\h 201=.int .i64 i2) (f3 hh c10 (f3 c15 c19 (f3 c22 c27 (f3 ((show vecC zai [(⟨0,bp,(gx ab.1 i2).step,s_7.1⟩:Rule)]=(dy .i64 ((⟨0,bp,(gx ab.1 i2).step,s_7.1⟩:Rule).prio) :: ((((⟨0,bp,(gx ab.1 i2).step,s_7.1⟩:Rule).mat).mask).l.map (dy .i64)++((((⟨0,bp,(gx ab.1 i2).step,s_7.1⟩:Rule).mat).bits).l.map (dy .i64)++[dy .i64 ((⟨0,bp,(gx ab.1 i2).step,s_7.1⟩:Rule).step),zbb ((⟨0,bp,(gx ab.1 i2).step,s_7.1⟩:Rule).outs)]))) from zga.trans rfl)) (yda ax) (f3 (zwy ax) (ztl ax) (f3 (zr8 ax) (zr7 ax) (z1s ax))))))) ?_ trivial ?_
       .exact ⟨f6 (zdv ax hx k (⟨m_.back,dx.wrap ((dx.wrap (m_.first+1))+i2)⟩:Spot) bp e44 ) (by first|rfl|simp only [c10,c15,c19,c22,c27]),trivial⟩
       clear hh h;intro h hh;cases H2;exact ce hh ⟨kq hh,rfl⟩
      clear hh h;rintro h bs ⟨hh,rfl⟩;refine rk [4,5,6,9,11,12,14,17,20,21,199,200,201] [] (f3 hh c10 (f3 c15 c19 (f2 c22 c27))) fun h hh=>?_;exact rd m hh ⟨(dx.wrap (i2+1)),s_6,(n2+1),H1,kq hh,rfl⟩
     clear hh h;rintro h bs ⟨hh,rfl⟩;obtain ⟨g47,H⟩:=isg H;apply dv;refine rkc [4,5,6,9,11,14,17,20,30] [] [(.arr 10 23 0 ((gx c.tables ((gx n.links m_.out).to)).length) ((gx c.tables ((gx n.links m_.out).to)).length) (((gx c.tables ((gx n.links m_.out).to)).length)*23),stL [.cells true 3 [zau n.nodes,zav n.links,zaw n.edges],.cells true 3 [.int .i64 c.version,zak c.tables,zah c.steps],.gone,.cells true 3 [.int .i64 0,.nils,.nils],.gone,.cells true 3 [.int .i64 ((gx n.links m_.back).frm),.int .i64 ((gx n.links m_.back).to),.int .i64 ((gx n.links m_.back).cap)],.gone,.cells true 3 [.int .i64 aa.1.port,.int .i64 aa.1.tag,ints aa.1.rules],.cells false (s_5.2*23) (vecC zai s_5.1),.cells true 20 (af.mask.l.map (dy .i64)++(af.bits.l.map (dy .i64))),.cells false (((gx c.tables ((gx n.links m_.out).to)).length)*23) (vecC zai (gx c.tables ((gx n.links m_.out).to)))])] (f3 hh c10 (f3 c15 c19 (f2 c22 c27))) ?_ ?_
     .exact ⟨(by have q:=rp (zxy ax hx (gx c.tables ((gx n.links m_.out).to)) g47) (by simp only [zbw,idsA,idsB,idsC,ef]) (by simp only [zbw,idsA,idsB,idsC,ef]) [.cells true 3 [zau n.nodes,zav n.links,zaw n.edges],.cells true 3 [.int .i64 c.version,zak c.tables,zah c.steps],.gone,.cells true 3 [.int .i64 0,.nils,.nils],.gone,.cells true 3 [.int .i64 ((gx n.links m_.back).frm),.int .i64 ((gx n.links m_.back).to),.int .i64 ((gx n.links m_.back).cap)],.gone,.cells true 3 [.int .i64 aa.1.port,.int .i64 aa.1.tag,ints aa.1.rules],.cells false (s_5.2*23) (vecC zai s_5.1),.cells true 20 (af.mask.l.map (dy .i64)++(af.bits.l.map (dy .i64)))];(try simp only [c10,c15,c19,c22,c27] at q);exact q),trivial⟩
     clear hh h;intro h hh;repeat apply dv
     refine rk [4,5,6,9,11,17,20,30,256,257,258] [] (f3 hh c10 (f3 c15 c19 (f2 c22 c27))) fun h hh=>?_;obtain ⟨s_10,H1,H⟩:=zad H;refine cu [4,5,6,9,20,30] 11 (fun h bs=>(h 4=.ptr 1 0 3/\h 5=.cp [.int .i64 m_.node,.int .i64 m_.port,.int .i64 m_.tag,.int .i64 m_.out,.int .i64 m_.back,.int .i64 m_.first]/\h 6=.ptr 3 0 3/\h 9=.cp [.int .i64 ((gx n.links m_.out).frm),.int .i64 ((gx n.links m_.out).to),.int .i64 ((gx n.links m_.out).cap)]/\h 20=.arr 8 23 0 s_5.2 s_5.2 (s_5.2*23)/\h 30=.arr 10 23 0 s_10.2 s_10.2 (s_10.2*23))/\bs=[.cells true 3 [zau n.nodes,zav n.links,zaw n.edges],.cells true 3 [.int .i64 c.version,zak c.tables,zah c.steps],.gone,.cells true 3 [.int .i64 0,.nils,.nils],.gone,.cells true 3 [.int .i64 ((gx n.links m_.back).frm),.int .i64 ((gx n.links m_.back).to),.int .i64 ((gx n.links m_.back).cap)],.gone,.cells true 3 [.int .i64 aa.1.port,.int .i64 aa.1.tag,ints aa.1.rules],.cells false (s_5.2*23) (vecC zai s_5.1),.cells true 20 (af.mask.l.map (dy .i64)++(af.bits.l.map (dy .i64))),.cells false (s_10.2*23) (vecC zai s_10.1)]) ?_ ?_
     .skip;apply ey;refine gt [4,5,6,9,11,17,20,30,256,257,258] (fun m h bs=>∃ (i5:Int) (l4:List Rule) (n4:Nat),zd4 k c m_ aa ab m i5 l4 n4=some s_10/\(h 4=.ptr 1 0 3/\h 5=.cp [.int .i64 m_.node,.int .i64 m_.port,.int .i64 m_.tag,.int .i64 m_.out,.int .i64 m_.back,.int .i64 m_.first]/\h 6=.ptr 3 0 3/\h 9=.cp [.int .i64 ((gx n.links m_.out).frm),.int .i64 ((gx n.links m_.out).to),.int .i64 ((gx n.links m_.out).cap)]/\h 11=zag (gx c.tables m_.node)/\h 17=ints ab.2/\h 20=.arr 8 23 0 s_5.2 s_5.2 (s_5.2*23)/\h 30=.arr 10 23 0 n4 n4 (n4*23)/\h 256=ints aa.1.rules/\h 257=.int .i64 (aa.1.rules.length:Int)/\h 258=.int .i64 i5)/\bs=[.cells true 3 [zau n.nodes,zav n.links,zaw n.edges],.cells true 3 [.int .i64 c.version,zak c.tables,zah c.steps],.gone,.cells true 3 [.int .i64 0,.nils,.nils],.gone,.cells true 3 [.int .i64 ((gx n.links m_.back).frm),.int .i64 ((gx n.links m_.back).to),.int .i64 ((gx n.links m_.back).cap)],.gone,.cells true 3 [.int .i64 aa.1.port,.int .i64 aa.1.tag,ints aa.1.rules],.cells false (s_5.2*23) (vecC zai s_5.1),.cells true 20 (af.mask.l.map (dy .i64)++(af.bits.l.map (dy .i64))),.cells false (n4*23) (vecC zai l4)]) ?_ k _ _ ?_;rotate_left
      .exact ⟨0,(gx c.tables ((gx n.links m_.out).to)),((gx c.tables ((gx n.links m_.out).to)).length),H1,kq hh,rfl⟩
      clear hh h H1;rintro m h bs ⟨i5,l4,n4,H1,hh,rfl⟩;rcases m with _|m
      .rw [zd4] at H1;cases H1
      rw [zd4] at H1;apply dv;refine rk [4,5,6,9,11,17,20,30,256,257,258,259] [] (f3 hh c10 (f3 c15 c19 (f2 c22 c27))) fun h hh=>?_;rcases isp H1 with ⟨c48,H1⟩|⟨c48,H1⟩;rotate_left
      .skip;apply dv;refine cf (f2 hh (zAb c48)) ?_;refine xk ?_;cases H1;exact ce hh ⟨kq hh,rfl⟩
      apply dv;refine ct (f2 hh (zAa c48)) ?_;refine sk ?_;apply dv;apply ey;obtain ⟨g49,H1⟩:=isg H1;apply dv;refine rk [4,5,6,9,11,17,20,30,31,32,256,257,258] [] (f3 hh c10 (f3 c15 c19 (f3 c22 c27 (zaf g49)))) fun h hh=>?_;obtain ⟨g50,H1⟩:=isg H1;apply dv;refine rk [4,5,6,9,11,17,20,30,31,33,256,257,258] [] (f3 hh c10 (f3 c15 c19 (f3 c22 c27 (f3 (zaf g50) (yda ax) (f2 (zr8 ax) (zr7 ax)))))) fun h hh=>?_;obtain ⟨g51,H1⟩:=isg H1;obtain ⟨g52,H1⟩:=isg H1;apply dv;refine ds 7 [(271,none),(275,some 11)] [4,5,6,9,11,17,20,30,31,33,256,257,258] [] [] [] (f3 hh c10 (f3 c15 c19 (f3 c22 c27 (f3 (setAt (k:=.i64) (off:=11) (L:=(dy .i64 0 :: ((((gx (gx c.tables m_.node) (gx aa.1.rules i5)).mat).mask).l.map (dy .i64)++((((gx (gx c.tables m_.node) (gx aa.1.rules i5)).mat).bits).l.map (dy .i64)++[dy .i64 (-1),qd])))) (r:=[.int .i64 (-1),.nils]) (L2:=(dy .i64 0 :: ((((gx (gx c.tables m_.node) (gx aa.1.rules i5)).mat).mask).l.map (dy .i64)++(((((gx (gx c.tables m_.node) (gx aa.1.rules i5)).mat).bits).set 0 m_.out).l.map (dy .i64)++[dy .i64 (-1),qd])))) (p:=(dy .i64 0 :: ((((gx (gx c.tables m_.node) (gx aa.1.rules i5)).mat).mask).l.map (dy .i64)))) (((gx (gx c.tables m_.node) (gx aa.1.rules i5)).mat).bits) m_.out g51) (setAt (k:=.i64) (off:=11) (L:=(dy .i64 0 :: ((((gx (gx c.tables m_.node) (gx aa.1.rules i5)).mat).mask).l.map (dy .i64)++(((((gx (gx c.tables m_.node) (gx aa.1.rules i5)).mat).bits).set 0 m_.out).l.map (dy .i64)++[dy .i64 (-1),qd])))) (r:=[.int .i64 (-1),.nils]) (L2:=(dy .i64 0 :: ((((gx (gx c.tables m_.node) (gx aa.1.rules i5)).mat).mask).l.map (dy .i64)++((((((gx (gx c.tables m_.node) (gx aa.1.rules i5)).mat).bits).set 0 m_.out).set 9 m_.first).l.map (dy .i64)++[dy .i64 (-1),qd])))) (p:=(dy .i64 0 :: ((((gx (gx c.tables m_.node) (gx aa.1.rules i5)).mat).mask).l.map (dy .i64)))) ((((gx (gx c.tables m_.node) (gx aa.1.rules i5)).mat).bits).set 0 m_.out) m_.first g52) (f2 (ztm ax) (ztl ax)))))) trivial trivial fun h hh=>?_;obtain ⟨g53,H1⟩:=isg H1;repeat apply dv
      refine rk [4,5,6,9,11,17,20,30,31,33,256,257,258,283] [] (f3 hh c10 (f3 c15 c19 (f3 c22 c27 (zaf g53)))) fun h hh=>?_;rcases isp H1 with ⟨c54,H1⟩|⟨c54,H1⟩;rotate_left
      .skip;refine cf (f2 hh (zAb c54)) ?_;refine sk ?_;refine nz 11 22 1 ?_;obtain ⟨g57,H1⟩:=isg H1;refine rg [] [] [.cells true 3 [zau n.nodes,zav n.links,zaw n.edges],.cells true 3 [.int .i64 c.version,zak c.tables,zah c.steps],.gone,.cells true 3 [.int .i64 0,.nils,.nils],.gone,.cells true 3 [.int .i64 ((gx n.links m_.back).frm),.int .i64 ((gx n.links m_.back).to),.int .i64 ((gx n.links m_.back).cap)],.gone,.cells true 3 [.int .i64 aa.1.port,.int .i64 aa.1.tag,ints aa.1.rules],.cells false (s_5.2*23) (vecC zai s_5.1),.cells true 20 (af.mask.l.map (dy .i64)++(af.bits.l.map (dy .i64))),.cells false ((n4+1)*23) (vecC zai (l4++[(⟨0,(⟨((gx (gx c.tables m_.node) (gx aa.1.rules i5)).mat).mask,((((gx (gx c.tables m_.node) (gx aa.1.rules i5)).mat).bits).set 0 m_.out).set 9 m_.first⟩:Pat),(-1),[]⟩:Rule)])),.cells true 23 (dy .i64 0 :: ((((gx (gx c.tables m_.node) (gx aa.1.rules i5)).mat).mask).l.map (dy .i64)++((((((gx (gx c.tables m_.node) (gx aa.1.rules i5)).mat).bits).set 0 m_.out).set 9 m_.first).l.map (dy .i64)++[dy .i64 (-1),zbb []])))] (fun h=>h 4=.ptr 1 0 3/\h 5=.cp [.int .i64 m_.node,.int .i64 m_.port,.int .i64 m_.tag,.int .i64 m_.out,.int .i64 m_.back,.int .i64 m_.first]/\h 6=.ptr 3 0 3/\h 9=.cp [.int .i64 ((gx n.links m_.out).frm),.int .i64 ((gx n.links m_.out).to),.int .i64 ((gx n.links m_.out).cap)]/\h 11=zag (gx c.tables m_.node)/\h 17=ints ab.2/\h 20=.arr 8 23 0 s_5.2 s_5.2 (s_5.2*23)/\h 30=.arr 10 23 0 (n4+1) (n4+1) ((n4+1)*23)/\h 256=ints aa.1.rules/\h 257=.int .i64 (aa.1.rules.length:Int)/\h 258=.int .i64 i5) (f3 hh c10 (f3 c15 c19 (f3 c22 c27 ((show vecC zai [(⟨0,(⟨((gx (gx c.tables m_.node) (gx aa.1.rules i5)).mat).mask,((((gx (gx c.tables m_.node) (gx aa.1.rules i5)).mat).bits).set 0 m_.out).set 9 m_.first⟩:Pat),(-1),[]⟩:Rule)]=(dy .i64 ((⟨0,(⟨((gx (gx c.tables m_.node) (gx aa.1.rules i5)).mat).mask,((((gx (gx c.tables m_.node) (gx aa.1.rules i5)).mat).bits).set 0 m_.out).set 9 m_.first⟩:Pat),(-1),[]⟩:Rule).prio) :: ((((⟨0,(⟨((gx (gx c.tables m_.node) (gx aa.1.rules i5)).mat).mask,((((gx (gx c.tables m_.node) (gx aa.1.rules i5)).mat).bits).set 0 m_.out).set 9 m_.first⟩:Pat),(-1),[]⟩:Rule).mat).mask).l.map (dy .i64)++((((⟨0,(⟨((gx (gx c.tables m_.node) (gx aa.1.rules i5)).mat).mask,((((gx (gx c.tables m_.node) (gx aa.1.rules i5)).mat).bits).set 0 m_.out).set 9 m_.first⟩:Pat),(-1),[]⟩:Rule).mat).bits).l.map (dy .i64)++[dy .i64 ((⟨0,(⟨((gx (gx c.tables m_.node) (gx aa.1.rules i5)).mat).mask,((((gx (gx c.tables m_.node) (gx aa.1.rules i5)).mat).bits).set 0 m_.out).set 9 m_.first⟩:Pat),(-1),[]⟩:Rule).step),zbb ((⟨0,(⟨((gx (gx c.tables m_.node) (gx aa.1.rules i5)).mat).mask,((((gx (gx c.tables m_.node) (gx aa.1.rules i5)).mat).bits).set 0 m_.out).set 9 m_.first⟩:Pat),(-1),[]⟩:Rule).outs)]))) from zga.trans rfl))))) trivial fun h hh=>?_;refine rk [4,5,6,9,11,17,20,30,256,257,258] [] (f3 hh c10 (f3 c15 c19 (f2 c22 c27))) fun h hh=>?_;exact rd m hh ⟨(dx.wrap (i5+1)),(l4++[(⟨0,(⟨((gx (gx c.tables m_.node) (gx aa.1.rules i5)).mat).mask,((((gx (gx c.tables m_.node) (gx aa.1.rules i5)).mat).bits).set 0 m_.out).set 9 m_.first⟩:Pat),(-1),[]⟩:Rule)]),(n4+1),H1,kq hh,rfl⟩
      refine ct (f2 hh (zAa c54)) ?_;obtain ⟨bc,e55,H1⟩:=zad H1;refine dk 9 [4,5,6,9,11,17,20,30,33,256,257,258] [] [] [(zbb bc,stL [.cells true 3 [zau n.nodes,zav n.links,zaw n.edges],.cells true 3 [.int .i64 c.version,zak c.tables,zah c.steps],.gone,.cells true 3 [.int .i64 0,.nils,.nils],.gone,.cells true 3 [.int .i64 ((gx n.links m_.back).frm),.int .i64 ((gx n.links m_.back).to),.int .i64 ((gx n.links m_.back).cap)],.gone,.cells true 3 [.int .i64 aa.1.port,.int .i64 aa.1.tag,ints aa.1.rules],.cells false (s_5.2*23) (vecC zai s_5.1),.cells true 20 (af.mask.l.map (dy .i64)++(af.bits.l.map (dy .i64))),.cells false (n4*23) (vecC zai l4),.cells true 23 (dy .i64 0 :: ((((gx (gx c.tables m_.node) (gx aa.1.rules i5)).mat).mask).l.map (dy .i64)++((((((gx (gx c.tables m_.node) (gx aa.1.rules i5)).mat).bits).set 0 m_.out).set 9 m_.first).l.map (dy .i64)++[dy .i64 (-1),qd])))])] (f3 hh c10 (f3 c15 c19 (f3 c22 c27 (f3 (zaf g53) (zwy ax) (ztl ax))))) trivial ?_ ?_
      .exact ⟨fc (f6 (zsx ax hx k m_.back (dx.wrap ((dx.wrap (m_.first+1))+(gx ab.2 i5))) bc e55 ) (by first|rfl|simp only [c10,c15,c19,c22,c27])),trivial⟩
      clear hh h;intro h hh;obtain ⟨g56,H1⟩:=isg H1;refine rg [] [] [.cells true 3 [zau n.nodes,zav n.links,zaw n.edges],.cells true 3 [.int .i64 c.version,zak c.tables,zah c.steps],.gone,.cells true 3 [.int .i64 0,.nils,.nils],.gone,.cells true 3 [.int .i64 ((gx n.links m_.back).frm),.int .i64 ((gx n.links m_.back).to),.int .i64 ((gx n.links m_.back).cap)],.gone,.cells true 3 [.int .i64 aa.1.port,.int .i64 aa.1.tag,ints aa.1.rules],.cells false (s_5.2*23) (vecC zai s_5.1),.cells true 20 (af.mask.l.map (dy .i64)++(af.bits.l.map (dy .i64))),.cells false ((n4+1)*23) (vecC zai (l4++[(⟨0,(⟨((gx (gx c.tables m_.node) (gx aa.1.rules i5)).mat).mask,((((gx (gx c.tables m_.node) (gx aa.1.rules i5)).mat).bits).set 0 m_.out).set 9 m_.first⟩:Pat),(-1),bc⟩:Rule)])),.cells true 23 (dy .i64 0 :: ((((gx (gx c.tables m_.node) (gx aa.1.rules i5)).mat).mask).l.map (dy .i64)++((((((gx (gx c.tables m_.node) (gx aa.1.rules i5)).mat).bits).set 0 m_.out).set 9 m_.first).l.map (dy .i64)++[dy .i64 (-1),zbb bc])))] (fun h=>h 4=.ptr 1 0 3/\h 5=.cp [.int .i64 m_.node,.int .i64 m_.port,.int .i64 m_.tag,.int .i64 m_.out,.int .i64 m_.back,.int .i64 m_.first]/\h 6=.ptr 3 0 3/\h 9=.cp [.int .i64 ((gx n.links m_.out).frm),.int .i64 ((gx n.links m_.out).to),.int .i64 ((gx n.links m_.out).cap)]/\h 11=zag (gx c.tables m_.node)/\h 17=ints ab.2/\h 20=.arr 8 23 0 s_5.2 s_5.2 (s_5.2*23)/\h 30=.arr 10 23 0 (n4+1) (n4+1) ((n4+1)*23)/\h 256=ints aa.1.rules/\h 257=.int .i64 (aa.1.rules.length:Int)/\h 258=.int .i64 i5) (f3 hh c10 (f3 c15 c19 (f3 c22 c27 ((show vecC zai [(⟨0,(⟨((gx (gx c.tables m_.node) (gx aa.1.rules i5)).mat).mask,((((gx (gx c.tables m_.node) (gx aa.1.rules i5)).mat).bits).set 0 m_.out).set 9 m_.first⟩:Pat),(-1),bc⟩:Rule)]=(dy .i64 ((⟨0,(⟨((gx (gx c.tables m_.node) (gx aa.1.rules i5)).mat).mask,((((gx (gx c.tables m_.node) (gx aa.1.rules i5)).mat).bits).set 0 m_.out).set 9 m_.first⟩:Pat),(-1),bc⟩:Rule).prio) :: ((((⟨0,(⟨((gx (gx c.tables m_.node) (gx aa.1.rules i5)).mat).mask,((((gx (gx c.tables m_.node) (gx aa.1.rules i5)).mat).bits).set 0 m_.out).set 9 m_.first⟩:Pat),(-1),bc⟩:Rule).mat).mask).l.map (dy .i64)++((((⟨0,(⟨((gx (gx c.tables m_.node) (gx aa.1.rules i5)).mat).mask,((((gx (gx c.tables m_.node) (gx aa.1.rules i5)).mat).bits).set 0 m_.out).set 9 m_.first⟩:Pat),(-1),bc⟩:Rule).mat).bits).l.map (dy .i64)++[dy .i64 ((⟨0,(⟨((gx (gx c.tables m_.node) (gx aa.1.rules i5)).mat).mask,((((gx (gx c.tables m_.node) (gx aa.1.rules i5)).mat).bits).set 0 m_.out).set 9 m_.first⟩:Pat),(-1),bc⟩:Rule).step),zbb ((⟨0,(⟨((gx (gx c.tables m_.node) (gx aa.1.rules i5)).mat).mask,((((gx (gx c.tables m_.node) (gx aa.1.rules i5)).mat).bits).set 0 m_.out).set 9 m_.first⟩:Pat),(-1),bc⟩:Rule).outs)]))) from zga.trans rfl))))) trivial fun h hh=>?_;refine rk [4,5,6,9,11,17,20,30,256,257,258] [] (f3 hh c10 (f3 c15 c19 (f2 c22 c27))) fun h hh=>?_;exact rd m hh ⟨(dx.wrap (i5+1)),(l4++[(⟨0,(⟨((gx (gx c.tables m_.node) (gx aa.1.rules i5)).mat).mask,((((gx (gx c.tables m_.node) (gx aa.1.rules i5)).mat).bits).set 0 m_.out).set 9 m_.first⟩:Pat),(-1),bc⟩:Rule)]),(n4+1),H1,kq hh,rfl⟩
     clear hh h;rintro h bs ⟨hh,rfl⟩;obtain ⟨s_11,H1,H⟩:=zad H;repeat apply dv
     refine cu [4,5,6,9,20,30,308] 11 (fun h bs=>(h 4=.ptr 1 0 3/\h 5=.cp [.int .i64 m_.node,.int .i64 m_.port,.int .i64 m_.tag,.int .i64 m_.out,.int .i64 m_.back,.int .i64 m_.first]/\h 6=.ptr 3 0 3/\h 9=.cp [.int .i64 ((gx n.links m_.out).frm),.int .i64 ((gx n.links m_.out).to),.int .i64 ((gx n.links m_.out).cap)]/\h 20=.arr 8 23 0 s_5.2 s_5.2 (s_5.2*23)/\h 30=.arr 10 23 0 s_10.2 s_10.2 (s_10.2*23)/\h 308=.bool s_11)/\bs=[.cells true 3 [zau n.nodes,zav n.links,zaw n.edges],.cells true 3 [.int .i64 c.version,zak c.tables,zah c.steps],.gone,.cells true 3 [.int .i64 0,.nils,.nils],.gone,.cells true 3 [.int .i64 ((gx n.links m_.back).frm),.int .i64 ((gx n.links m_.back).to),.int .i64 ((gx n.links m_.back).cap)],.gone,.cells true 3 [.int .i64 aa.1.port,.int .i64 aa.1.tag,ints aa.1.rules],.cells false (s_5.2*23) (vecC zai s_5.1),.cells true 20 (af.mask.l.map (dy .i64)++(af.bits.l.map (dy .i64))),.cells false (s_10.2*23) (vecC zai s_10.1)]) ?_ ?_
     .skip;rcases isp H1 with ⟨c58,H1⟩|⟨c58,H1⟩;rotate_left
      .skip;refine rk [4,5,6,9,20,30,308] [] (f3 hh (zAb c58) (f3 c10 c15 (f3 c19 c22 c27))) fun h hh=>?_;cases H1;exact ce hh ⟨kq hh,rfl⟩
      refine rk [4,5,6,9,20,30,308] [] (f3 hh (zAa c58) (f3 c10 c15 (f3 c19 c22 c27))) fun h hh=>?_;cases H1;exact ce hh ⟨kq hh,rfl⟩
     clear hh h;rintro h bs ⟨hh,rfl⟩;rcases isb H with ⟨c59,H⟩|⟨c59,H⟩;rotate_left
     .skip;refine cf (f2 hh c59) ?_;refine sk ?_;obtain ⟨g60,H⟩:=isg H;apply dv;refine rkc [4,5,6,9,20,30] [] [(.arr 11 1 0 c.tables.length c.tables.length c.tables.length,stL [.cells true 3 [zau n.nodes,zav n.links,zaw n.edges],.cells true 3 [.int .i64 c.version,zak c.tables,zah c.steps],.gone,.cells true 3 [.int .i64 0,.nils,.nils],.gone,.cells true 3 [.int .i64 ((gx n.links m_.back).frm),.int .i64 ((gx n.links m_.back).to),.int .i64 ((gx n.links m_.back).cap)],.gone,.cells true 3 [.int .i64 aa.1.port,.int .i64 aa.1.tag,ints aa.1.rules],.cells false (s_5.2*23) (vecC zai s_5.1),.cells true 20 (af.mask.l.map (dy .i64)++(af.bits.l.map (dy .i64))),.cells false (s_10.2*23) (vecC zai s_10.1),.cells false c.tables.length (c.tables.map zag)])] (f3 hh c10 (f3 c15 c19 (f3 c22 c27 c59))) ?_ ?_
      .exact ⟨(by have q:=rp (z1j ax hx c.tables g60) (by simp only [zbw,idsA,idsB,idsC,ef]) (by simp only [zbw,idsA,idsB,idsC,ef]) [.cells true 3 [zau n.nodes,zav n.links,zaw n.edges],.cells true 3 [.int .i64 c.version,zak c.tables,zah c.steps],.gone,.cells true 3 [.int .i64 0,.nils,.nils],.gone,.cells true 3 [.int .i64 ((gx n.links m_.back).frm),.int .i64 ((gx n.links m_.back).to),.int .i64 ((gx n.links m_.back).cap)],.gone,.cells true 3 [.int .i64 aa.1.port,.int .i64 aa.1.tag,ints aa.1.rules],.cells false (s_5.2*23) (vecC zai s_5.1),.cells true 20 (af.mask.l.map (dy .i64)++(af.bits.l.map (dy .i64))),.cells false (s_10.2*23) (vecC zai s_10.1)];(try simp only [c10,c15,c19,c22,c27,c59] at q);exact q),trivial⟩
      clear hh h;intro h hh;refine zk 4 1 3 true [.int .i64 c.version,.arr 11 1 0 c.tables.length c.tables.length c.tables.length,zah c.steps] [4,5,6,9,20,30] hh fun h hh=>?_;obtain ⟨rb4,e61,H⟩:=zad H;obtain ⟨rb5,e62,H⟩:=zad H;obtain ⟨g63,H⟩:=isg H;obtain ⟨g64,H⟩:=isg H;apply dv;refine dc 9 [4,5,9] [4,6] [] [] [(zag rb4,stL [.cells true 3 [zau n.nodes,zav n.links,zaw n.edges],.gone,.gone,.cells true 3 [.int .i64 0,.nils,.nils],.gone,.cells true 3 [.int .i64 ((gx n.links m_.back).frm),.int .i64 ((gx n.links m_.back).to),.int .i64 ((gx n.links m_.back).cap)],.gone,.cells true 3 [.int .i64 aa.1.port,.int .i64 aa.1.tag,ints aa.1.rules],.gone,.cells true 20 (af.mask.l.map (dy .i64)++(af.bits.l.map (dy .i64))),.cells false (s_10.2*23) (vecC zai s_10.1),.cells false c.tables.length (c.tables.map zag)]),(zag rb5,stL [.cells true 3 [zau n.nodes,zav n.links,zaw n.edges],.gone,.gone,.cells true 3 [.int .i64 0,.nils,.nils],.gone,.cells true 3 [.int .i64 ((gx n.links m_.back).frm),.int .i64 ((gx n.links m_.back).to),.int .i64 ((gx n.links m_.back).cap)],.gone,.cells true 3 [.int .i64 aa.1.port,.int .i64 aa.1.tag,ints aa.1.rules],.gone,.cells true 20 (af.mask.l.map (dy .i64)++(af.bits.l.map (dy .i64))),.gone,.cells false c.tables.length (c.tables.map zag)])] (f3 hh c10 (f3 c15 c19 (f3 c22 c27 (f3 c59 ((show spl (c.tables.map zag) m_.node.toNat [T.lst 23 (rb4.map zai)]=_ from zu4 (v:=rb4) g63)) (f2 ((show spl ((c.tables.set m_.node.toNat rb4).map zag) ((gx n.links m_.out).to).toNat [T.lst 23 (rb5.map zai)]=_ from zu4 (v:=rb5) g64)) (zpf ax)))))) trivial ?_ ?_
      .exact ⟨ca [8] (zkm ax hx k s_5.2 s_5.1 rb4 e61),ca [10] (zkm ax hx k s_10.2 s_10.1 rb5 e62),trivial⟩
      clear hh h;intro h hh;apply dv;refine rk [6,7] [] (f3 hh c10 (f3 c15 c19 (f3 c22 c27 c59))) fun h hh=>?_;obtain ⟨g65,H⟩:=isg H;refine fz (e:=1) (len:=c.tables.length) (M:=c.tables.length) (l:=(((c.tables.set m_.node.toNat rb4).set ((gx n.links m_.out).to).toNat rb5).map zag)) 3 11 1 (((c.tables.set m_.node.toNat rb4).set ((gx n.links m_.out).to).toNat rb5).map zag) (by rw [fl,qo,zfc (fun _=>rfl),fx (by rw [ed];omega)]) (fun t ht=>by obtain ⟨x,_,rfl⟩:=ic.1 ht;first|rfl|exact zg2 _|exact ze3 _|exact zca _|exact zbc _ | (rw [ed];rfl)) (by rw [ed]<;>exact g65) ?_;cases H;exact rtc hh
     refine ct (f2 hh c59) ?_;apply dv;refine rk [6,7] [] (f3 hh c10 (f3 c15 c19 (f3 c22 c27 (f2 c59 (bt30 ax))))) fun h hh=>?_;refine nz 3 1 1 ?_;refine nz 3 2 6 ?_;cases H;exact rtc hh
    refine ct (f2 hh c27) ?_;apply dv;refine rk [6,7] [] (f3 hh c10 (f3 c15 c19 (f3 c22 c27 (bt30 ax)))) fun h hh=>?_;refine nz 3 1 1 ?_;refine nz 3 2 6 ?_;cases H;exact rtc hh
   refine ct (f2 hh c22) ?_;apply dv;refine rk [6,7] [] (f3 hh c10 (f3 c15 c19 (f2 c22 (bt30 ax)))) fun h hh=>?_;refine nz 3 1 1 ?_;refine nz 3 2 6 ?_;cases H;exact rtc hh
  refine ct (f2 hh c15) ?_;apply dv;refine rk [6,7] [] (f3 hh c10 (f2 c15 (bt30 ax))) fun h hh=>?_;refine nz 3 1 1 ?_;refine nz 3 2 6 ?_;cases H;exact rtc hh
 refine ct (f2 hh c10) ?_;apply dv;refine rk [6,7] [] (f3 hh c10 (bt30 ax)) fun h hh=>?_;refine nz 3 1 1 ?_;refine nz 3 2 6 ?_;cases H;exact rtc hh
def zei (k:Nat) (t:List Rule) (port:Int) (tag:Int):Nat->Int->Option (Bool ⊕ Unit)
 |0,_=>none
 |m+1,i=>(if i<(t.length:Int) then (if 0<=i/\i<(t.length:Int) then ((zmg k port tag).bind fun rAt=>((zfj k ((gx t i).mat) rAt).bind fun ay=>(if ay=true then some (.inl true) else zei k t port tag m (dx.wrap (i+1))))) else none) else some (.inr ()))
def zho (k:Nat) (t:List Rule) (port:Int) (tag:Int):Option Bool:=((zei k t port tag k 0:Option (Bool ⊕ Unit)).bind fun o=>il (fun r=>some r) (fun s_=>some false) o)
theorem zp7 (ax:Axs) (hx:NoAx ax) (k:Nat) (t:List Rule) (port:Int) (tag:Int) (v:Bool) (H:zho k t port tag=some v):Pure Tryz.prog (EE ax) [] 68 [zag t,.int .i64 port,.int .i64 tag] (.bool v):=by
 rw [zho] at H;refine en [.tmp 6] 25 [0,1,2] (hx.no _ (by decide)) (fn68 ax) ?_;intro h hh;apply dv;refine rk [0,1,2] [] hh fun h hh=>?_;repeat apply dv
 refine rk [0,1,2,7] [] hh fun h hh=>?_;obtain ⟨o,H1,H⟩:=zad H;refine cu [] 0 (fun h bs=>∃ s_:Unit,o=.inr s_/\(True)/\bs=[]) ?_ ?_
 .skip;apply ey;refine gt [0,1,2,7] (fun m h bs=>∃ (i:Int),zei k t port tag m i=some o/\(h 0=zag t/\h 1=.int .i64 port/\h 2=.int .i64 tag/\h 7=.int .i64 i)/\bs=[]) ?_ k _ _ ?_;rotate_left
  .exact ⟨0,H1,kq hh,rfl⟩
  clear hh h H1;rintro m h bs ⟨i,H1,hh,rfl⟩;rcases m with _|m
  .rw [zei] at H1;cases H1
  rw [zei] at H1;repeat apply dv
  refine rk [0,1,2,7,12] [] hh fun h hh=>?_;rcases isp H1 with ⟨c1,H1⟩|⟨c1,H1⟩;rotate_left
  .skip;refine cf (f2 hh (zAb c1)) ?_;refine xk ?_;cases H1;exact ce hh ⟨_,rfl,kq hh,rfl⟩
  refine ct (f2 hh (zAa c1)) ?_;refine sk ?_;apply dv;apply ey;obtain ⟨g2,H1⟩:=isg H1;obtain ⟨rAt,e3,H1⟩:=zad H1;obtain ⟨ay,e4,H1⟩:=zad H1;apply dv;refine dk 8 [0,1,2,7,8] [ePat rAt] [] [(.bool ay,stL [])] (f2 hh (zaf g2)) ?_ ?_ ?_
  .exact ⟨(zlf ax hx k port tag rAt e3 ).call _,trivial⟩
  .exact ⟨fc ((znf ax hx k ((gx t i).mat) rAt ay e4 ).call _),trivial⟩
  clear hh h;intro h hh;apply dv;refine rk [0,1,2,7,24] [] hh fun h hh=>?_;rcases isb H1 with ⟨c5,H1⟩|⟨c5,H1⟩;rotate_left
  .skip;refine cf (f2 hh c5) ?_;refine sk ?_;refine rk [0,1,2,7] [] (f2 hh c5) fun h hh=>?_;exact rd m hh ⟨(dx.wrap (i+1)),H1,kq hh,rfl⟩
  refine ct (f2 hh c5) ?_;apply dv;refine rk [6] [] (f2 hh c5) fun h hh=>?_;cases H1;obtain rfl:=sinl H;exact rt hh
 clear hh h;rintro h bs ⟨s_,rfl,hh,rfl⟩;replace H:=sinr H;apply dv;refine rk [6] [] hh fun h hh=>?_;cases H;exact rt hh
def zld (k:Nat) (a:Rule) (b:Rule):Option Bool:=((zgs k (⟨0,(⟨zA 10,zA 10⟩:Pat),a.step,a.outs⟩:Rule) (⟨0,(⟨zA 10,zA 10⟩:Pat),b.step,b.outs⟩:Rule)).bind fun aw=>some aw)
theorem z08 (ax:Axs) (hx:NoAx ax) (k:Nat) (a:Rule) (b:Rule) (v:Bool) (H:zld k a b=some v):Pure Tryz.prog (EE ax) [] 100 [zai a,zai b] (.bool v):=by
 rw [zld] at H;refine en [.tmp 4] 14 [0,1] (hx.no _ (by decide)) (fn100 ax) ?_;intro h hh;apply dv;refine rk [2,3] [] hh fun h hh=>?_;apply dv;refine rk [2,3] [] hh fun h hh=>?_;apply dv;refine rk [2,3] [] hh fun h hh=>?_;apply dv;refine rk [2,3] [] hh fun h hh=>?_;apply dv;refine rk [2,3] [] hh fun h hh=>?_;obtain ⟨aw,e1,H⟩:=zad H;apply dv;refine rkp [4] [] [.bool aw] hh ?_ ?_
 .exact ⟨fc ((zmy ax hx k (⟨0,(⟨zA 10,zA 10⟩:Pat),a.step,a.outs⟩:Rule) (⟨0,(⟨zA 10,zA 10⟩:Pat),b.step,b.outs⟩:Rule) aw e1 ).call _),trivial⟩
 clear hh h;intro h hh;cases H;exact rt hh
def zej (k:Nat) (l:List Rule) (r:Rule):Nat->Int->Option (Int ⊕ Unit)
 |0,_=>none
 |m+1,i=>(if i<(l.length:Int) then (if 0<=i/\i<(l.length:Int) then ((zld k (gx l i) r).bind fun av=>(if av=true then some (.inl i) else zej k l r m (dx.wrap (i+1)))) else none) else some (.inr ()))
def zhp (k:Nat) (l:List Rule) (r:Rule):Option Int:=((zej k l r k 0:Option (Int ⊕ Unit)).bind fun o=>il (fun r=>some r) (fun s_=>some (l.length:Int)) o)
theorem zp8 (ax:Axs) (hx:NoAx ax) (k:Nat) (l:List Rule) (r:Rule) (v:Int) (H:zhp k l r=some v):Pure Tryz.prog (EE ax) [] 74 [zag l,zai r] (.int .i64 v):=by
 rw [zhp] at H;refine en [.tmp 4] 23 [0,1] (hx.no _ (by decide)) (fn74 ax) ?_;intro h hh;apply dv;refine rk [0,3] [] hh fun h hh=>?_;repeat apply dv
 refine rk [0,3,5] [] hh fun h hh=>?_;obtain ⟨o,H1,H⟩:=zad H;refine cu [0] 1 (fun h bs=>∃ s_:Unit,o=.inr s_/\(h 0=zag l)/\bs=[.cells true 23 (dy .i64 r.prio :: (r.mat.mask.l.map (dy .i64)++(r.mat.bits.l.map (dy .i64)++[dy .i64 r.step,zbb r.outs])))]) ?_ ?_
 .skip;apply ey;refine gt [0,3,5] (fun m h bs=>∃ (i:Int),zej k l r m i=some o/\(h 0=zag l/\h 3=.ptr 0 0 23/\h 5=.int .i64 i)/\bs=[.cells true 23 (dy .i64 r.prio :: (r.mat.mask.l.map (dy .i64)++(r.mat.bits.l.map (dy .i64)++[dy .i64 r.step,zbb r.outs])))]) ?_ k _ _ ?_;rotate_left
  .exact ⟨0,H1,kq hh,rfl⟩
  clear hh h H1;rintro m h bs ⟨i,H1,hh,rfl⟩;rcases m with _|m
  .rw [zej] at H1;cases H1
  rw [zej] at H1;repeat apply dv
  refine rk [0,3,5,10] [] hh fun h hh=>?_;rcases isp H1 with ⟨c1,H1⟩|⟨c1,H1⟩;rotate_left
  .skip;refine cf (f2 hh (zAb c1)) ?_;refine xk ?_;cases H1;exact ce hh ⟨_,rfl,kq hh,rfl⟩
  refine ct (f2 hh (zAa c1)) ?_;refine sk ?_;apply dv;apply ey;obtain ⟨g2,H1⟩:=isg H1;obtain ⟨av,e3,H1⟩:=zad H1;apply dv;refine dk 5 [0,3,5,6] [] [] [(.bool av,stL [.cells true 23 (dy .i64 r.prio :: (r.mat.mask.l.map (dy .i64)++(r.mat.bits.l.map (dy .i64)++[dy .i64 r.step,zbb r.outs])))])] (f2 hh (zaf g2)) trivial ?_ ?_
  .exact ⟨fc ((z08 ax hx k (gx l i) r av e3 ).call _),trivial⟩
  clear hh h;intro h hh;apply dv;refine rk [0,3,5,19] [] hh fun h hh=>?_;rcases isb H1 with ⟨c4,H1⟩|⟨c4,H1⟩;rotate_left
  .skip;refine cf (f2 hh c4) ?_;refine sk ?_;refine rk [0,3,5] [] (f2 hh c4) fun h hh=>?_;exact rd m hh ⟨(dx.wrap (i+1)),H1,kq hh,rfl⟩
  refine ct (f2 hh c4) ?_;apply dv;refine rk [4] [] (f2 hh c4) fun h hh=>?_;cases H1;obtain rfl:=sinl H;exact rt hh
 clear hh h;rintro h bs ⟨s_,rfl,hh,rfl⟩;replace H:=sinr H;apply dv;refine rk [4] [] hh fun h hh=>?_;cases H;exact rt hh
def zcf (k:Nat) (t:List Rule) (bunch:List Int):Nat->Int->(List Rule)->Nat->Option (List Rule×Nat)
 |0,_,_,_=>none
 |m+1,i,l,n=>(if i<(bunch.length:Int) then (if 0<=i/\i<(bunch.length:Int) then (if (0:Int)<=(gx bunch i)/\(gx bunch i)<(t.length:Int) then ((zlh k (⟨(gx t (gx bunch i)).prio,((gx t (gx bunch i)).mat),(gx t (gx bunch i)).step,(gx t (gx bunch i)).outs⟩:Rule)).bind fun ba=>(if ba=true then zcf k t bunch m (dx.wrap (i+1)) l n else (if l.length=n then ((zhp k l (⟨(gx t (gx bunch i)).prio,((gx t (gx bunch i)).mat),(gx t (gx bunch i)).step,(gx t (gx bunch i)).outs⟩:Rule)).bind fun bu=>(if bu=(n:Int) then (if (n+1)*201<=1000000000 then zcf k t bunch m (dx.wrap (i+1)) (l++[(⟨(gx t (gx bunch i)).prio,((gx t (gx bunch i)).mat),(gx t (gx bunch i)).step,(gx t (gx bunch i)).outs⟩:Rule)]) (n+1) else none) else zcf k t bunch m (dx.wrap (i+1)) l n)) else none))) else none) else none) else some (l,n))
def zis (k:Nat) (t:List Rule) (bunch:List Int):Option (List Rule):=((zcf k t bunch k 0 [] 0:Option (List Rule×Nat)).bind fun s_=>(if s_.1.length=s_.2 then some s_.1 else none))
theorem zu2 (ax:Axs) (hx:NoAx ax) (k:Nat) (t:List Rule) (bunch:List Int) (v:List Rule) (H:zis k t bunch=some v):Pure Tryz.prog (EE ax) [] 29 [zag t,ints bunch] (zag v):=by
 rw [zis] at H;refine en [.tmp 4] 39 [0,1] (hx.no _ (by decide)) (fn29 ax) ?_;intro h hh;apply dv;refine rk [0,1] [] hh fun h hh=>?_;apply dv;refine rk [0,1,5] [] hh fun h hh=>?_;refine vk 5 23 [0,1,5] hh fun h hh=>?_;repeat apply dv
 refine rk [0,1,5,6] [] hh fun h hh=>?_;obtain ⟨s_,H1,H⟩:=zad H;refine cu [5] 1 (fun h bs=>(h 5=.arr 0 23 0 s_.2 s_.2 (s_.2*23))/\bs=[.cells false (s_.2*23) (vecC zai s_.1)]) ?_ ?_
 .skip;apply ey;refine gt [0,1,5,6] (fun m h bs=>∃ (i:Int) (l:List Rule) (n:Nat),zcf k t bunch m i l n=some s_/\(h 0=zag t/\h 1=ints bunch/\h 5=.arr 0 23 0 n n (n*23)/\h 6=.int .i64 i)/\bs=[.cells false (n*23) (vecC zai l)]) ?_ k _ _ ?_;rotate_left
  .exact ⟨0,[],0,H1,kq hh,rfl⟩
  clear hh h H1;rintro m h bs ⟨i,l,n,H1,hh,rfl⟩;rcases m with _|m
  .rw [zcf] at H1;cases H1
  rw [zcf] at H1;repeat apply dv
  refine rk [0,1,5,6,12] [] hh fun h hh=>?_;rcases isp H1 with ⟨c1,H1⟩|⟨c1,H1⟩;rotate_left
  .skip;refine cf (f2 hh (zAb c1)) ?_;refine xk ?_;cases H1;exact ce hh ⟨kq hh,rfl⟩
  refine ct (f2 hh (zAa c1)) ?_;refine sk ?_;apply dv;apply ey;obtain ⟨g2,H1⟩:=isg H1;obtain ⟨g3,H1⟩:=isg H1;apply dv;refine rk [0,1,5,6,7] [] (f3 hh (zaf g2) (zaf g3)) fun h hh=>?_;obtain ⟨ba,e4,H1⟩:=zad H1;apply dv;refine rkp [0,1,5,6,7,8] [] [.bool ba] hh ?_ ?_
  .exact ⟨fc ((zqb ax hx k (⟨(gx t (gx bunch i)).prio,((gx t (gx bunch i)).mat),(gx t (gx bunch i)).step,(gx t (gx bunch i)).outs⟩:Rule) ba e4 ).call _),trivial⟩
  clear hh h;intro h hh;rcases isb H1 with ⟨c5,H1⟩|⟨c5,H1⟩;rotate_left
  .skip;obtain ⟨g6,H1⟩:=isg H1;obtain ⟨bu,e7,H1⟩:=zad H1;apply dv;refine rkp [0,1,5,6,7,33] [] [.int .i64 bu] (f2 hh c5) ?_ ?_
   .exact ⟨(by have q:=fc (Pure.lend (S:=stL [.cells false (n*23) (vecC zai l),.cells true 23 (dy .i64 ((gx t (gx bunch i)).prio) :: ((((gx t (gx bunch i)).mat).mask).l.map (dy .i64)++((((gx t (gx bunch i)).mat).bits).l.map (dy .i64)++[dy .i64 ((gx t (gx bunch i)).step),zbb ((gx t (gx bunch i)).outs)])))]) (args:=[.arr 0 23 0 n n (n*23),.agg (dy .i64 ((gx t (gx bunch i)).prio) :: ((((gx t (gx bunch i)).mat).mask).l.map (dy .i64)++((((gx t (gx bunch i)).mat).bits).l.map (dy .i64)++[dy .i64 ((gx t (gx bunch i)).step),zbb ((gx t (gx bunch i)).outs)])))]) (zp8 ax hx k l (⟨(gx t (gx bunch i)).prio,((gx t (gx bunch i)).mat),(gx t (gx bunch i)).step,(gx t (gx bunch i)).outs⟩:Rule) bu e7 ) (dr (yab (fun x=>zbc x) (by decide) (by rfl) g6) (dr (Or.inl rfl) (trivial))) rfl);(try simp only [c5] at q);exact q),trivial⟩
   clear hh h;intro h hh;rcases isp H1 with ⟨c8,H1⟩|⟨c8,H1⟩;rotate_left
   .skip;refine cf (f2 hh (zAb c8)) ?_;refine sk ?_;refine rk [0,1,5,6] [] (f2 hh c5) fun h hh=>?_;exact rd m hh ⟨(dx.wrap (i+1)),l,n,H1,kq hh,rfl⟩
   refine ct (f2 hh (zAa c8)) ?_;obtain ⟨g9,H1⟩:=isg H1;refine rg [] [] [.cells false ((n+1)*23) (vecC zai (l++[(⟨(gx t (gx bunch i)).prio,((gx t (gx bunch i)).mat),(gx t (gx bunch i)).step,(gx t (gx bunch i)).outs⟩:Rule)])),.cells true 23 (dy .i64 ((gx t (gx bunch i)).prio) :: ((((gx t (gx bunch i)).mat).mask).l.map (dy .i64)++((((gx t (gx bunch i)).mat).bits).l.map (dy .i64)++[dy .i64 ((gx t (gx bunch i)).step),zbb ((gx t (gx bunch i)).outs)])))] (fun h=>h 0=zag t/\h 1=ints bunch/\h 5=.arr 0 23 0 (n+1) (n+1) ((n+1)*23)/\h 6=.int .i64 i) (f3 hh c5 ((show vecC zai [(⟨(gx t (gx bunch i)).prio,((gx t (gx bunch i)).mat),(gx t (gx bunch i)).step,(gx t (gx bunch i)).outs⟩:Rule)]=(dy .i64 ((⟨(gx t (gx bunch i)).prio,((gx t (gx bunch i)).mat),(gx t (gx bunch i)).step,(gx t (gx bunch i)).outs⟩:Rule).prio) :: ((((⟨(gx t (gx bunch i)).prio,((gx t (gx bunch i)).mat),(gx t (gx bunch i)).step,(gx t (gx bunch i)).outs⟩:Rule).mat).mask).l.map (dy .i64)++((((⟨(gx t (gx bunch i)).prio,((gx t (gx bunch i)).mat),(gx t (gx bunch i)).step,(gx t (gx bunch i)).outs⟩:Rule).mat).bits).l.map (dy .i64)++[dy .i64 ((⟨(gx t (gx bunch i)).prio,((gx t (gx bunch i)).mat),(gx t (gx bunch i)).step,(gx t (gx bunch i)).outs⟩:Rule).step),zbb ((⟨(gx t (gx bunch i)).prio,((gx t (gx bunch i)).mat),(gx t (gx bunch i)).step,(gx t (gx bunch i)).outs⟩:Rule).outs)]))) from zga.trans rfl))) trivial fun h hh=>?_;refine rk [0,1,5,6] [] (f2 hh c5) fun h hh=>?_;exact rd m hh ⟨(dx.wrap (i+1)),(l++[(⟨(gx t (gx bunch i)).prio,((gx t (gx bunch i)).mat),(gx t (gx bunch i)).step,(gx t (gx bunch i)).outs⟩:Rule)]),(n+1),H1,kq hh,rfl⟩
  apply dv;refine rk [0,1,5,6,7,33] [] (f2 hh c5) fun h hh=>?_;refine cf hh ?_;refine sk ?_;refine rk [0,1,5,6] [] (f2 hh c5) fun h hh=>?_;exact rd m hh ⟨(dx.wrap (i+1)),l,n,H1,kq hh,rfl⟩
 clear hh h;rintro h bs ⟨hh,rfl⟩;apply dv;refine rk [4] [] hh fun h hh=>?_;obtain ⟨g10,H⟩:=isg H;refine lw 4 (b:=0) (e:=23) (off:=0) (len:=s_.2) (cap:=s_.2) (M:=(s_.2*23)) (s_.1.map zai) (kq hh) (by rfl) (by omega) (by omega) (by rw [fl];exact zgd (fun x=>zbc x) g10) (fun t ht=>by obtain ⟨x,_,rfl⟩:=ic.1 ht;first|rfl|exact zg2 _|exact ze3 _|exact zca _|exact zbc _ | (rw [ed];rfl)) (by rw [ed]<;>exact g10) (by omega) ?_;rw [zgb _ _ _ (by simp only [lzA]<;>omega)];simp only [scA];refine gk [4] hh fun h hh=>?_;cases H;exact rt hh
def zpl (k:Nat) (port:Int) (tag:Int):Option Pat:=((zmg k port tag).bind fun rAt=>some rAt)
theorem zyr (ax:Axs) (hx:NoAx ax) (k:Nat) (port:Int) (tag:Int) (v:Pat) (H:zpl k port tag=some v):Pure Tryz.prog (EE ax) [] 98 [.int .i64 port,.int .i64 tag] (ePat v):=by
 rw [zpl] at H;refine en [.cell 4 119] 14 [0,1] (hx.no _ (by decide)) (fn98 ax) ?_;intro h hh;apply dv;refine rk [0,1,4] [] hh fun h hh=>?_;obtain ⟨rAt,e1,H⟩:=zad H;apply dv;refine rkc [4,5] [] [(ePat rAt,stL [.cells true 20 ((zA 10).l.map (dy .i64)++((zA 10).l.map (dy .i64)))])] hh ?_ ?_
 .exact ⟨fc ((zlf ax hx k port tag rAt e1 ).call _),trivial⟩
 clear hh h;intro h hh;apply dv;refine rk [4] [] (f3 hh (ysp ax) (f2 (yfy ax) (yfx ax))) fun h hh=>?_;cases H;exact rtc hh
def zll (k:Nat) (m_:Pat) (n:Pat):Option Pat:=((zjq k n m_.bits).bind fun al=>((zjq k (⟨n.mask,n.mask⟩:Pat) m_.mask).bind fun dn=>some (⟨dn,al⟩:Pat)))
theorem z3d (ax:Axs) (hx:NoAx ax) (k:Nat) (m_:Pat) (n:Pat) (v:Pat) (H:zll k m_ n=some v):Pure Tryz.prog (EE ax) [] 99 [ePat m_,ePat n] (ePat v):=by
 rw [zll] at H;refine en [.cell 4 119] 20 [0,1] (hx.no _ (by decide)) (fn99 ax) ?_;intro h hh;apply dv;refine rk [2,3,4] [] hh fun h hh=>?_;obtain ⟨al,e1,H⟩:=zad H;apply dv;refine rkc [2,3,4] [] [(.agg (al.l.map (dy .i64)),stL [.cells true 20 (m_.mask.l.map (dy .i64)++(m_.bits.l.map (dy .i64))),.cells true 20 (n.mask.l.map (dy .i64)++(n.bits.l.map (dy .i64))),.cells true 20 ((zA 10).l.map (dy .i64)++((zA 10).l.map (dy .i64)))])] hh ?_ ?_
 .exact ⟨fc ((zqf ax hx k n m_.bits al e1 ).call _),trivial⟩
 clear hh h;intro h hh;obtain ⟨dn,e2,H⟩:=zad H;apply dv;refine rkc [2,4] [] [(.agg (dn.l.map (dy .i64)),stL [.cells true 20 (m_.mask.l.map (dy .i64)++(al.l.map (dy .i64))),.cells true 20 (n.mask.l.map (dy .i64)++(n.bits.l.map (dy .i64))),.cells true 20 ((zA 10).l.map (dy .i64)++((zA 10).l.map (dy .i64)))])] (f3 hh (ysp ax) (f2 (yfy ax) (yfx ax))) ?_ ?_
 .exact ⟨fc ((zqf ax hx k (⟨n.mask,n.mask⟩:Pat) m_.mask dn e2 ).call _),trivial⟩
 clear hh h;intro h hh;apply dv;refine rk [4] [] hh fun h hh=>?_;cases H;exact rtc hh
def zb7 (k:Nat) (l:List (List Alt)) (port:Int) (tag:Int) (i:Int):Nat->Int->(List Alt)->Nat->Option (List Alt×Nat)
 |0,_,_,_=>none
 |m+1,k_,l3,n2=>(if 0<=i/\i<(l.length:Int) then (if k_<((gx l i).length:Int) then (if 0<=k_/\k_<((gx l i).length:Int) then ((zpl k port tag).bind fun rTo=>((zll k rTo ((gx (gx l i) k_).mod)).bind fun ap=>(if (n2+1)*169<=1000000000 then zb7 k l port tag i m (dx.wrap (k_+1)) (l3++[(⟨(gx (gx l i) k_).link,ap⟩:Alt)]) (n2+1) else none))) else none) else some (l3,n2)) else none)
def zb8 (k:Nat) (l:List (List Alt)) (port:Int) (tag:Int):Nat->Int->(List (List Alt))->Nat->Option (List (List Alt)×Nat)
 |0,_,_,_=>none
 |m+1,i,l2,n=>(if i<(l.length:Int) then ((((zb7 k l port tag i k 0 [] 0:Option (List Alt×Nat)).bind fun s_3=>(if s_3.1.length=s_3.2 then (if (n+1)*25<=1000000000 then some (l2++[s_3.1]) else none) else none)):Option (List (List Alt))).bind fun s_2=>zb8 k l port tag m (dx.wrap (i+1)) s_2 (n+1)) else some (l2,n))
def zf4 (k:Nat) (l:List (List Alt)) (port:Int) (tag:Int):Option (List (List Alt)):=((zb8 k l port tag k 0 [] 0:Option (List (List Alt)×Nat)).bind fun s_=>(if s_.1.length=s_.2 then some s_.1 else none))
theorem zr0 (ax:Axs) (hx:NoAx ax) (k:Nat) (l:List (List Alt)) (port:Int) (tag:Int) (v:List (List Alt)) (H:zf4 k l port tag=some v):Pure Tryz.prog (EE ax) [] 72 [zbb l,.int .i64 port,.int .i64 tag] (zbb v):=by
 rw [zf4] at H;refine en [.tmp 6] 55 [0,1,2] (hx.no _ (by decide)) (fn72 ax) ?_;intro h hh;apply dv;refine rk [0,1,2] [] hh fun h hh=>?_;apply dv;refine rk [0,1,2,7] [] hh fun h hh=>?_;refine vk 7 1 [0,1,2,7] hh fun h hh=>?_;repeat apply dv
 refine rk [0,1,2,7,8] [] hh fun h hh=>?_;obtain ⟨s_,H1,H⟩:=zad H;refine cu [7] 1 (fun h bs=>(h 7=.arr 0 1 0 s_.2 s_.2 s_.2)/\bs=[.cells false s_.2 (s_.1.map lAlt)]) ?_ ?_
 .skip;apply ey;refine gt [0,1,2,7,8] (fun m h bs=>∃ (i:Int) (l2:List (List Alt)) (n:Nat),zb8 k l port tag m i l2 n=some s_/\(h 0=zbb l/\h 1=.int .i64 port/\h 2=.int .i64 tag/\h 7=.arr 0 1 0 n n n/\h 8=.int .i64 i)/\bs=[.cells false n (l2.map lAlt)]) ?_ k _ _ ?_;rotate_left
  .exact ⟨0,[],0,H1,kq hh,rfl⟩
  clear hh h H1;rintro m h bs ⟨i,l2,n,H1,hh,rfl⟩;rcases m with _|m
  .rw [zb8] at H1;cases H1
  rw [zb8] at H1;repeat apply dv
  refine rk [0,1,2,7,8,14] [] hh fun h hh=>?_;rcases isp H1 with ⟨c1,H1⟩|⟨c1,H1⟩;rotate_left
  .skip;refine cf (f2 hh (zAb c1)) ?_;refine xk ?_;cases H1;exact ce hh ⟨kq hh,rfl⟩
  refine ct (f2 hh (zAa c1)) ?_;refine sk ?_;obtain ⟨s_2,H2,H1⟩:=zad H1;apply dv;refine cu [0,1,2,7,8] 1 (fun h bs=>(h 0=zbb l/\h 1=.int .i64 port/\h 2=.int .i64 tag/\h 7=.arr 0 1 0 (n+1) (n+1) (n+1)/\h 8=.int .i64 i)/\bs=[.cells false (n+1) (s_2.map lAlt)]) ?_ ?_
  .skip;apply ey;apply dv;refine rk [0,1,2,7,8,9] [] hh fun h hh=>?_;refine vk 9 21 [0,1,2,7,8,9] hh fun h hh=>?_;repeat apply dv
   refine rk [0,1,2,7,8,9,10] [] hh fun h hh=>?_;obtain ⟨s_3,H3,H2⟩:=zad H2;refine cu [0,1,2,7,8,9] 2 (fun h bs=>(h 0=zbb l/\h 1=.int .i64 port/\h 2=.int .i64 tag/\h 7=.arr 0 1 0 n n n/\h 8=.int .i64 i/\h 9=.arr 1 21 0 s_3.2 s_3.2 (s_3.2*21))/\bs=[.cells false n (l2.map lAlt),.cells false (s_3.2*21) (vecC eAlt s_3.1)]) ?_ ?_
   .skip;apply ey;refine gt [0,1,2,7,8,9,10] (fun m h bs=>∃ (k_:Int) (l3:List Alt) (n2:Nat),zb7 k l port tag i m k_ l3 n2=some s_3/\(h 0=zbb l/\h 1=.int .i64 port/\h 2=.int .i64 tag/\h 7=.arr 0 1 0 n n n/\h 8=.int .i64 i/\h 9=.arr 1 21 0 n2 n2 (n2*21)/\h 10=.int .i64 k_)/\bs=[.cells false n (l2.map lAlt),.cells false (n2*21) (vecC eAlt l3)]) ?_ k _ _ ?_;rotate_left
    .exact ⟨0,[],0,H3,kq hh,rfl⟩
    clear hh h H3;rintro m h bs ⟨k_,l3,n2,H3,hh,rfl⟩;rcases m with _|m
    .rw [zb7] at H3;cases H3
    rw [zb7] at H3;obtain ⟨g2,H3⟩:=isg H3;repeat apply dv
    refine rk [0,1,2,7,8,9,10,23] [] (f2 hh (zaf g2)) fun h hh=>?_;rcases isp H3 with ⟨c3,H3⟩|⟨c3,H3⟩;rotate_left
    .skip;refine cf (f2 hh (zAb c3)) ?_;refine xk ?_;cases H3;exact ce hh ⟨kq hh,rfl⟩
    refine ct (f2 hh (zAa c3)) ?_;refine sk ?_;apply dv;apply ey;obtain ⟨g4,H3⟩:=isg H3;obtain ⟨rTo,e5,H3⟩:=zad H3;obtain ⟨ap,e6,H3⟩:=zad H3;obtain ⟨g7,H3⟩:=isg H3;refine dg 21 [ePat rTo,ePat ap] [] [] [.cells false n (l2.map lAlt),.cells false ((n2+1)*21) (vecC eAlt (l3++[(⟨(gx (gx l i) k_).link,ap⟩:Alt)]))] (fun h=>h 0=zbb l/\h 1=.int .i64 port/\h 2=.int .i64 tag/\h 7=.arr 0 1 0 n n n/\h 8=.int .i64 i/\h 9=.arr 1 21 0 (n2+1) (n2+1) ((n2+1)*21)/\h 10=.int .i64 k_) (f3 hh (zaf g2) (f3 (zaf g4) ((show vecC eAlt [(⟨(gx (gx l i) k_).link,ap⟩:Alt)]=(dy .i64 ((⟨(gx (gx l i) k_).link,ap⟩:Alt).link) :: ((((⟨(gx (gx l i) k_).link,ap⟩:Alt).mod).mask).l.map (dy .i64)++((((⟨(gx (gx l i) k_).link,ap⟩:Alt).mod).bits).l.map (dy .i64)))) from zga.trans rfl)) (f3 (yp1 ax) (yp0 ax) (zxu ax)))) ?_ trivial ?_
    .exact ⟨(zyr ax hx k port tag rTo e5 ).call _,(z3d ax hx k rTo ((gx (gx l i) k_).mod) ap e6 ).call _,trivial⟩
    clear hh h;intro h hh;refine rk [0,1,2,7,8,9,10] [] hh fun h hh=>?_;exact rd m hh ⟨(dx.wrap (k_+1)),(l3++[(⟨(gx (gx l i) k_).link,ap⟩:Alt)]),(n2+1),H3,kq hh,rfl⟩
   clear hh h;rintro h bs ⟨hh,rfl⟩;obtain ⟨g8,H2⟩:=isg H2;refine lw 9 (b:=1) (e:=21) (off:=0) (len:=s_3.2) (cap:=s_3.2) (M:=(s_3.2*21)) (s_3.1.map eAlt) (kq hh) (by rfl) (by omega) (by omega) (by rw [fl];exact zgd (e:=21) (fun x=>zca x) g8) (fun t ht=>by obtain ⟨x,_,rfl⟩:=ic.1 ht;first|rfl|exact zg2 _|exact ze3 _|exact zca _|exact zbc _ | (rw [ed];rfl)) (by rw [ed]<;>exact g8) (by omega) ?_;rw [zgb _ _ _ (by simp only [lzA]<;>omega)];simp only [scA];refine gk [0,1,2,7,8,9] hh fun h hh=>?_;obtain ⟨g9,H2⟩:=isg H2;refine rg [] [] [.cells false (n+1) ((l2++[s_3.1]).map lAlt),.gone] (fun h=>h 0=zbb l/\h 1=.int .i64 port/\h 2=.int .i64 tag/\h 7=.arr 0 1 0 (n+1) (n+1) (n+1)/\h 8=.int .i64 i) (f2 hh (yrb ax)) trivial fun h hh=>?_;cases H2;exact ce hh ⟨kq hh,rfl⟩
  clear hh h;rintro h bs ⟨hh,rfl⟩;refine rk [0,1,2,7,8] [] hh fun h hh=>?_;exact rd m hh ⟨(dx.wrap (i+1)),s_2,(n+1),H1,kq hh,rfl⟩
 clear hh h;rintro h bs ⟨hh,rfl⟩;apply dv;refine rk [6] [] hh fun h hh=>?_;obtain ⟨g10,H⟩:=isg H;refine lw 6 (b:=0) (e:=1) (off:=0) (len:=s_.2) (cap:=s_.2) (M:=s_.2) (s_.1.map lAlt) (kq hh) (by rfl) (by omega) (by omega) (by rw [fl,qo,zfc (fun _=>rfl),fx (by rw [ed];omega)]) (fun t ht=>by obtain ⟨x,_,rfl⟩:=ic.1 ht;first|rfl|exact zg2 _|exact ze3 _|exact zca _|exact zbc _ | (rw [ed];rfl)) (by rw [ed]<;>exact g10) (by omega) ?_;rw [zgb _ _ _ (by simp only [lzA]<;>omega)];simp only [scA];refine gk [6] hh fun h hh=>?_;cases H;exact rt hh
def zjx (k:Nat) (link:Int) (tag:Int):Option (List (List Alt)):=((zpl k link tag).bind fun rTo=>some [[(⟨link,rTo⟩:Alt)]])
theorem zsu (ax:Axs) (hx:NoAx ax) (k:Nat) (link:Int) (tag:Int) (v:List (List Alt)) (H:zjx k link tag=some v):Pure Tryz.prog (EE ax) [] 71 [.int .i64 link,.int .i64 tag] (zbb v):=by
 rw [zjx] at H;refine en [.tmp 4] 12 [0,1] (hx.no _ (by decide)) (fn71 ax) ?_;intro h hh;apply dv;refine rk [0,1] [] hh fun h hh=>?_;obtain ⟨rTo,e1,H⟩:=zad H;apply dv;refine rkp [4] [] [ePat rTo] hh ?_ ?_
 .exact ⟨fc ((zyr ax hx k link tag rTo e1 ).call _),trivial⟩
 clear hh h;intro h hh;cases H;exact rt hh
def zcj (k:Nat) (t:List Rule):Nat->Int->(List Rule)->Nat->Option (List Rule×Nat)
 |0,_,_,_=>none
 |m+1,i,l,n=>(if i<(t.length:Int) then (if 0<=i/\i<(t.length:Int) then (if (n+1)*201<=1000000000 then zcj k t m (dx.wrap (i+1)) (l++[(⟨dx.wrap ((t.length:Int) - i),((gx t i).mat),(gx t i).step,(gx t i).outs⟩:Rule)]) (n+1) else none) else none) else some (l,n))
def zgr (k:Nat) (t:List Rule):Option (List Rule):=((zcj k t k 0 [] 0:Option (List Rule×Nat)).bind fun s_=>(if s_.1.length=s_.2 then some s_.1 else none))
theorem zmx (ax:Axs) (hx:NoAx ax) (k:Nat) (t:List Rule) (v:List Rule) (H:zgr k t=some v):Pure Tryz.prog (EE ax) [] 75 [zag t] (zag v):=by
 rw [zgr] at H;refine en [.tmp 2] 26 [0] (hx.no _ (by decide)) (fn75 ax) ?_;intro h hh;apply dv;refine rk [0] [] hh fun h hh=>?_;apply dv;refine rk [0,3] [] hh fun h hh=>?_;refine vk 3 23 [0,3] hh fun h hh=>?_;repeat apply dv
 refine rk [0,3,4] [] hh fun h hh=>?_;obtain ⟨s_,H1,H⟩:=zad H;refine cu [3] 1 (fun h bs=>(h 3=.arr 0 23 0 s_.2 s_.2 (s_.2*23))/\bs=[.cells false (s_.2*23) (vecC zai s_.1)]) ?_ ?_
 .skip;apply ey;refine gt [0,3,4] (fun m h bs=>∃ (i:Int) (l:List Rule) (n:Nat),zcj k t m i l n=some s_/\(h 0=zag t/\h 3=.arr 0 23 0 n n (n*23)/\h 4=.int .i64 i)/\bs=[.cells false (n*23) (vecC zai l)]) ?_ k _ _ ?_;rotate_left
  .exact ⟨0,[],0,H1,kq hh,rfl⟩
  clear hh h H1;rintro m h bs ⟨i,l,n,H1,hh,rfl⟩;rcases m with _|m
  .rw [zcj] at H1;cases H1
  rw [zcj] at H1;repeat apply dv
  refine rk [0,3,4,9] [] hh fun h hh=>?_;rcases isp H1 with ⟨c1,H1⟩|⟨c1,H1⟩;rotate_left
  .skip;refine cf (f2 hh (zAb c1)) ?_;refine xk ?_;cases H1;exact ce hh ⟨kq hh,rfl⟩
  refine ct (f2 hh (zAa c1)) ?_;refine sk ?_;apply dv;apply ey;obtain ⟨g2,H1⟩:=isg H1;apply dv;refine rk [0,3,4,5] [] (f2 hh (zaf g2)) fun h hh=>?_;apply dv;refine rk [0,3,4,5] [] hh fun h hh=>?_;obtain ⟨g3,H1⟩:=isg H1;refine rg [] [] [.cells false ((n+1)*23) (vecC zai (l++[(⟨dx.wrap ((t.length:Int) - i),((gx t i).mat),(gx t i).step,(gx t i).outs⟩:Rule)])),.cells true 23 (dy .i64 (dx.wrap ((t.length:Int) - i)) :: ((((gx t i).mat).mask).l.map (dy .i64)++((((gx t i).mat).bits).l.map (dy .i64)++[dy .i64 ((gx t i).step),zbb ((gx t i).outs)])))] (fun h=>h 0=zag t/\h 3=.arr 0 23 0 (n+1) (n+1) ((n+1)*23)/\h 4=.int .i64 i) (f2 hh ((show vecC zai [(⟨dx.wrap ((t.length:Int) - i),((gx t i).mat),(gx t i).step,(gx t i).outs⟩:Rule)]=(dy .i64 ((⟨dx.wrap ((t.length:Int) - i),((gx t i).mat),(gx t i).step,(gx t i).outs⟩:Rule).prio) :: ((((⟨dx.wrap ((t.length:Int) - i),((gx t i).mat),(gx t i).step,(gx t i).outs⟩:Rule).mat).mask).l.map (dy .i64)++((((⟨dx.wrap ((t.length:Int) - i),((gx t i).mat),(gx t i).step,(gx t i).outs⟩:Rule).mat).bits).l.map (dy .i64)++[dy .i64 ((⟨dx.wrap ((t.length:Int) - i),((gx t i).mat),(gx t i).step,(gx t i).outs⟩:Rule).step),zbb ((⟨dx.wrap ((t.length:Int) - i),((gx t i).mat),(gx t i).step,(gx t i).outs⟩:Rule).outs)]))) from zga.trans rfl))) trivial fun h hh=>?_;refine rk [0,3,4] [] hh fun h hh=>?_;exact rd m hh ⟨(dx.wrap (i+1)),(l++[(⟨dx.wrap ((t.length:Int) - i),((gx t i).mat),(gx t i).step,(gx t i).outs⟩:Rule)]),(n+1),H1,kq hh,rfl⟩
 clear hh h;rintro h bs ⟨hh,rfl⟩;apply dv;refine rk [2] [] hh fun h hh=>?_;obtain ⟨g4,H⟩:=isg H;refine lw 2 (b:=0) (e:=23) (off:=0) (len:=s_.2) (cap:=s_.2) (M:=(s_.2*23)) (s_.1.map zai) (kq hh) (by rfl) (by omega) (by omega) (by rw [fl];exact zgd (fun x=>zbc x) g4) (fun t ht=>by obtain ⟨x,_,rfl⟩:=ic.1 ht;first|rfl|exact zg2 _|exact ze3 _|exact zca _|exact zbc _ | (rw [ed];rfl)) (by rw [ed]<;>exact g4) (by omega) ?_;rw [zgb _ _ _ (by simp only [lzA]<;>omega)];simp only [scA];refine gk [2] hh fun h hh=>?_;cases H;exact rt hh
def zb9 (k:Nat) (l:List Int) (k_:Int):Nat->Bool->Int->Option Bool
 |0,_,_=>none
 |m+1,gone,i=>(if i<(l.length:Int) then (if gone=true then zb9 k l k_ m true (dx.wrap (i+1)) else (if 0<=i/\i<(l.length:Int) then zb9 k l k_ m (decide ((gx l i)=k_)) (dx.wrap (i+1)) else none)) else some gone)
def zcl (k:Nat) (t:List Rule) (l:List Int):Nat->Int->(List Rule)->Nat->Option (List Rule×Nat)
 |0,_,_,_=>none
 |m+1,k_,l2,n=>(if k_<(t.length:Int) then ((((zb9 k l k_ k false 0:Option Bool).bind fun s_3=>(if s_3=true then some (l2,n) else (if 0<=k_/\k_<(t.length:Int) then (if (n+1)*201<=1000000000 then some (l2++[gx t k_],n+1) else none) else none))):Option (List Rule×Nat)).bind fun s_2=>zcl k t l m (dx.wrap (k_+1)) s_2.1 s_2.2) else some (l2,n))
def zg6 (k:Nat) (t:List Rule) (l:List Int):Option (List Rule×Nat):=((zcl k t l k 0 [] 0:Option (List Rule×Nat)).bind fun s_=>some (s_.1,s_.2))
theorem zr1 (ax:Axs) (hx:NoAx ax) (k:Nat) (t:List Rule) (l:List Int) (v:List Rule×Nat) (H:zg6 k t l=some v):Call Tryz.prog (EE ax) [] 69 [zag t,ints l] (stL []) (tupT [.arr 0 23 0 v.2 v.2 (v.2*23)]) (stL [.cells false (v.2*23) (vecC zai v.1)]):=by
 rw [zg6] at H;refine enBr [.tmp 4] 40 [0,1] (hx.no _ (by decide)) (fn69 ax) ?_;intro h hh;apply dv;refine rk [0,1] [] hh fun h hh=>?_;apply dv;refine rk [0,1,5] [] hh fun h hh=>?_;refine vk 5 23 [0,1,5] hh fun h hh=>?_;repeat apply dv
 refine rk [0,1,5,6] [] hh fun h hh=>?_;obtain ⟨s_,H1,H⟩:=zad H;refine cu [5] 1 (fun h bs=>(h 5=.arr 0 23 0 s_.2 s_.2 (s_.2*23))/\bs=[.cells false (s_.2*23) (vecC zai s_.1)]) ?_ ?_
 .skip;apply ey;refine gt [0,1,5,6] (fun m h bs=>∃ (k_:Int) (l2:List Rule) (n:Nat),zcl k t l m k_ l2 n=some s_/\(h 0=zag t/\h 1=ints l/\h 5=.arr 0 23 0 n n (n*23)/\h 6=.int .i64 k_)/\bs=[.cells false (n*23) (vecC zai l2)]) ?_ k _ _ ?_;rotate_left
  .exact ⟨0,[],0,H1,kq hh,rfl⟩
  clear hh h H1;rintro m h bs ⟨k_,l2,n,H1,hh,rfl⟩;rcases m with _|m
  .rw [zcl] at H1;cases H1
  rw [zcl] at H1;repeat apply dv
  refine rk [0,1,5,6,12] [] hh fun h hh=>?_;rcases isp H1 with ⟨c1,H1⟩|⟨c1,H1⟩;rotate_left
  .skip;refine cf (f2 hh (zAb c1)) ?_;refine xk ?_;cases H1;exact ce hh ⟨kq hh,rfl⟩
  refine ct (f2 hh (zAa c1)) ?_;refine sk ?_;obtain ⟨s_2,H2,H1⟩:=zad H1;apply dv;refine cu [0,1,5,6] 1 (fun h bs=>(h 0=zag t/\h 1=ints l/\h 5=.arr 0 23 0 s_2.2 s_2.2 (s_2.2*23)/\h 6=.int .i64 k_)/\bs=[.cells false (s_2.2*23) (vecC zai s_2.1)]) ?_ ?_
  .skip;apply ey;apply dv;refine rk [0,1,5,6,7] [] hh fun h hh=>?_;repeat apply dv
   refine rk [0,1,5,6,7,8] [] hh fun h hh=>?_;obtain ⟨s_3,H3,H2⟩:=zad H2;refine cu [0,1,5,6,7] 1 (fun h bs=>(h 0=zag t/\h 1=ints l/\h 5=.arr 0 23 0 n n (n*23)/\h 6=.int .i64 k_/\h 7=.bool s_3)/\bs=[.cells false (n*23) (vecC zai l2)]) ?_ ?_
   .skip;apply ey;refine gt [0,1,5,6,7,8] (fun m h bs=>∃ (gone:Bool) (i:Int),zb9 k l k_ m gone i=some s_3/\(h 0=zag t/\h 1=ints l/\h 5=.arr 0 23 0 n n (n*23)/\h 6=.int .i64 k_/\h 7=.bool gone/\h 8=.int .i64 i)/\bs=[.cells false (n*23) (vecC zai l2)]) ?_ k _ _ ?_;rotate_left
    .exact ⟨false,0,H3,kq hh,rfl⟩
    clear hh h H3;rintro m h bs ⟨gone,i,H3,hh,rfl⟩;rcases m with _|m
    .rw [zb9] at H3;cases H3
    rw [zb9] at H3;repeat apply dv
    refine rk [0,1,5,6,7,8,18] [] hh fun h hh=>?_;rcases isp H3 with ⟨c2,H3⟩|⟨c2,H3⟩;rotate_left
    .skip;refine cf (f2 hh (zAb c2)) ?_;refine xk ?_;cases H3;exact ce hh ⟨kq hh,rfl⟩
    refine ct (f2 hh (zAa c2)) ?_;refine sk ?_;apply dv;apply ey;rcases isb H3 with ⟨c3,H3⟩|⟨c3,H3⟩;rotate_left
    .skip;obtain ⟨g4,H3⟩:=isg H3;refine rk [0,1,5,6,7,8] [] (f3 hh c3 (zaf g4)) fun h hh=>?_;refine rk [0,1,5,6,7,8] [] (f2 hh c3) fun h hh=>?_;exact rd m hh ⟨(decide ((gx l i)=k_)),(dx.wrap (i+1)),H3,kq hh,rfl⟩
    refine rk [0,1,5,6,7,8] [] (f2 hh c3) fun h hh=>?_;refine rk [0,1,5,6,7,8] [] (f2 hh c3) fun h hh=>?_;exact rd m hh ⟨true,(dx.wrap (i+1)),H3,kq hh,rfl⟩
   clear hh h;rintro h bs ⟨hh,rfl⟩;apply dv;refine rk [0,1,5,6,31] [] hh fun h hh=>?_;rcases isb H2 with ⟨c5,H2⟩|⟨c5,H2⟩;rotate_left
   .skip;refine ct (f2 hh c5) ?_;obtain ⟨g6,H2⟩:=isg H2;obtain ⟨g7,H2⟩:=isg H2;refine rg [] [] [.cells false ((n+1)*23) (vecC zai (l2++[gx t k_]))] (fun h=>h 0=zag t/\h 1=ints l/\h 5=.arr 0 23 0 (n+1) (n+1) ((n+1)*23)/\h 6=.int .i64 k_) (f3 hh c5 (f2 (zaf g6) ((show vecC zai [gx t k_]=(dy .i64 ((gx t k_).prio) :: ((((gx t k_).mat).mask).l.map (dy .i64)++((((gx t k_).mat).bits).l.map (dy .i64)++[dy .i64 ((gx t k_).step),zbb ((gx t k_).outs)]))) from zga.trans rfl)))) trivial fun h hh=>?_;cases H2;exact ce hh ⟨kq hh,rfl⟩
   refine cf (f2 hh c5) ?_;refine sk ?_;cases H2;exact ce hh ⟨kq hh,rfl⟩
  clear hh h;rintro h bs ⟨hh,rfl⟩;refine rk [0,1,5,6] [] hh fun h hh=>?_;exact rd m hh ⟨(dx.wrap (k_+1)),s_2.1,s_2.2,H1,kq hh,rfl⟩
 clear hh h;rintro h bs ⟨hh,rfl⟩;apply dv;refine rk [4] [] hh fun h hh=>?_;cases H;exact rtB hh
def zeo (k:Nat) (c:zam) (m_:Offl) (ah:List Rule):Nat->Bool->Int->Option Bool
 |0,_,_=>none
 |m+1,used,k_=>(if k_<(ah.length:Int) then ((zho k (gx c.tables m_.node) m_.back (dx.wrap ((dx.wrap (m_.first+1))+k_))).bind fun ck=>(if used=true then zeo k c m_ ah m true (dx.wrap (k_+1)) else zeo k c m_ ah m ck (dx.wrap (k_+1)))) else some used)
def zen (k:Nat) (m_:Offl) (ah:List Rule):Nat->Int->(List Rule)->Nat->Option (List Rule×Nat)
 |0,_,_,_=>none
 |m+1,k_2,l,n2=>(if k_2<(ah.length:Int) then ((zmg k m_.back (dx.wrap ((dx.wrap (m_.first+1))+k_2))).bind fun bj=>(if 0<=k_2/\k_2<(ah.length:Int) then ((zf4 k ((gx ah k_2).outs) m_.port m_.tag).bind fun bk=>(if (n2+1)*201<=1000000000 then zen k m_ ah m (dx.wrap (k_2+1)) (l++[(⟨0,bj,(gx ah k_2).step,bk⟩:Rule)]) (n2+1) else none)) else none)) else some (l,n2))
def zd0 (k:Nat) (c:zam) (m_:Offl) (ac:List Int) (ah:List Rule):Nat->Int->(List Rule)->Nat->Option (List Rule×Nat)
 |0,_,_,_=>none
 |m+1,i,l2,n3=>(if i<(ac.length:Int) then (if 0<=i/\i<(ac.length:Int) then (if (0:Int)<=(gx ac i)/\(gx ac i)<((gx c.tables m_.node).length:Int) then (if (0:Int)<=0/\0<(10:Int) then (if (0:Int)<=9/\9<(10:Int) then ((zlh k (⟨(gx (gx c.tables m_.node) (gx ac i)).prio,((gx (gx c.tables m_.node) (gx ac i)).mat),(gx (gx c.tables m_.node) (gx ac i)).step,(gx (gx c.tables m_.node) (gx ac i)).outs⟩:Rule)).bind fun ba=>(if ba=true then (if (n3+1)*201<=1000000000 then zd0 k c m_ ac ah m (dx.wrap (i+1)) (l2++[(⟨0,(⟨((gx (gx c.tables m_.node) (gx ac i)).mat).mask,((((gx (gx c.tables m_.node) (gx ac i)).mat).bits).set 0 m_.out).set 9 m_.first⟩:Pat),(-1),[]⟩:Rule)]) (n3+1) else none) else ((zhp k ah (⟨(gx (gx c.tables m_.node) (gx ac i)).prio,((gx (gx c.tables m_.node) (gx ac i)).mat),(gx (gx c.tables m_.node) (gx ac i)).step,(gx (gx c.tables m_.node) (gx ac i)).outs⟩:Rule)).bind fun bu=>((zjx k m_.back (dx.wrap ((dx.wrap (m_.first+1))+bu))).bind fun be=>(if (n3+1)*201<=1000000000 then zd0 k c m_ ac ah m (dx.wrap (i+1)) (l2++[(⟨0,(⟨((gx (gx c.tables m_.node) (gx ac i)).mat).mask,((((gx (gx c.tables m_.node) (gx ac i)).mat).bits).set 0 m_.out).set 9 m_.first⟩:Pat),(-1),be⟩:Rule)]) (n3+1) else none))))) else none) else none) else none) else none) else some (l2,n3))
def zir (k:Nat) (n:Net) (c:zam) (m_:Offl):Option zxq:=(((if m_.node<0 then some true else (if (n.nodes.length:Int)<=m_.node then some true else (if m_.out<0 then some true else (if (n.links.length:Int)<=m_.out then some true else (if m_.back<0 then some true else (if (n.links.length:Int)<=m_.back then some true else (if m_.port<0 then some true else (if 65535<m_.port then some true else (if m_.tag<0 then some true else some (decide (65535<m_.tag))))))))))):Option Bool).bind fun s_=>(if s_=true then some (⟨(⟨0,[],[]⟩:zam),1⟩:zxq) else (if 0<=m_.out/\m_.out<(n.links.length:Int) then (((if ((gx n.links m_.out).frm)≠m_.node then some true else (if 0<=m_.back/\m_.back<(n.links.length:Int) then (if ((gx n.links m_.back).frm)≠((gx n.links m_.out).to) then some true else some (decide (((gx n.links m_.back).to)≠m_.node))) else none)):Option Bool).bind fun s_2=>(if s_2=true then some (⟨(⟨0,[],[]⟩:zam),1⟩:zxq) else (if 0<=m_.node/\m_.node<(c.tables.length:Int) then (if (0:Int)<=((gx n.links m_.out).to)/\((gx n.links m_.out).to)<(c.tables.length:Int) then ((zjm k (gx c.tables m_.node) m_.port m_.tag).bind fun ac=>(if (ac.length:Int)=0 then some (⟨(⟨0,[],[]⟩:zam),9⟩:zxq) else ((zis k (gx c.tables m_.node) ac).bind fun ah=>(((if m_.first<1 then some true else some (decide ((dx.wrap (65535 - (ah.length:Int)))<m_.first))):Option Bool).bind fun s_3=>(if s_3=true then some (⟨(⟨0,[],[]⟩:zam),1⟩:zxq) else ((zho k (gx c.tables ((gx n.links m_.out).to)) m_.out m_.first).bind fun ar=>((zeo k c m_ ah k ar 0:Option Bool).bind fun s_4=>(if s_4=true then some (⟨(⟨0,[],[]⟩:zam),26⟩:zxq) else ((zg6 k (gx c.tables m_.node) ac).bind fun rb=>((zmg k m_.port m_.tag).bind fun rAt=>((zjx k m_.out m_.first).bind fun bn=>(if (rb.2+1)*201<=1000000000 then ((zen k m_ ah k 0 (rb.1++[(⟨0,rAt,(-1),bn⟩:Rule)]) (rb.2+1):Option (List Rule×Nat)).bind fun s_5=>(((if (0+(gx c.tables ((gx n.links m_.out).to)).length)*201<=1000000000 then (if (gx c.tables ((gx n.links m_.out).to)).length=0 then some ([],0) else some ((gx c.tables ((gx n.links m_.out).to)),(gx c.tables ((gx n.links m_.out).to)).length)) else none):Option (List Rule×Nat)).bind fun s_6=>((zd0 k c m_ ac ah k 0 s_6.1 s_6.2:Option (List Rule×Nat)).bind fun s_7=>(((if 4000<(s_5.2:Int) then some true else some (decide (4000<(s_7.2:Int)))):Option Bool).bind fun s_8=>(if s_8=true then some (⟨(⟨0,[],[]⟩:zam),2⟩:zxq) else (((if (0+c.tables.length)*25<=1000000000 then (if c.tables.length=0 then some ([],0) else some (c.tables,c.tables.length)) else none):Option (List (List Rule)×Nat)).bind fun s_9=>(if s_5.1.length=s_5.2 then ((zgr k s_5.1).bind fun bq=>(if 0<=m_.node/\m_.node<(s_9.2:Int) then (if m_.node.toNat<s_9.1.length then (if s_7.1.length=s_7.2 then ((zgr k s_7.1).bind fun bz=>(if (0:Int)<=((gx n.links m_.out).to)/\((gx n.links m_.out).to)<(s_9.2:Int) then (if ((gx n.links m_.out).to).toNat<(s_9.1.set m_.node.toNat bq).length then (if ((s_9.1.set m_.node.toNat bq).set ((gx n.links m_.out).to).toNat bz).length=s_9.2 then some (⟨(⟨c.version,(s_9.1.set m_.node.toNat bq).set ((gx n.links m_.out).to).toNat bz,c.steps⟩:zam),0⟩:zxq) else none) else none) else none)) else none) else none) else none)) else none))))))) else none)))))))))))) else none) else none))) else none)))
theorem zsw (ax:Axs) (hx:NoAx ax) (k:Nat) (n:Net) (c:zam) (m_:Offl) (v:zxq) (H:zir k n c m_=some v):Pure Tryz.prog (EE ax) [] 26 [eNet n,zds c,zri m_] (zw5 v):=by
 rw [zir] at H;refine en [.cell 6 56] 318 [0,1,2] (hx.no _ (by decide)) (fn26 ax) ?_;intro h hh;apply dv;refine rk [3,4,5,6] [] (f2 hh (ti56 ax)) fun h hh=>?_;obtain ⟨s_,H1,H⟩:=zad H;repeat apply dv
 refine cu [3,4,5,6,79] 4 (fun h bs=>(h 3=.ptr 0 0 3/\h 4=.ptr 1 0 3/\h 5=.ptr 2 0 6/\h 6=.ptr 3 0 4/\h 79=.bool s_)/\bs=[.cells true 3 [zau n.nodes,zav n.links,zaw n.edges],.cells true 3 [.int .i64 c.version,zak c.tables,zah c.steps],.cells true 6 [.int .i64 m_.node,.int .i64 m_.port,.int .i64 m_.tag,.int .i64 m_.out,.int .i64 m_.back,.int .i64 m_.first],.cells true 4 [.int .i64 0,.nils,.nils,.int .i64 0]]) ?_ ?_
 .skip;rcases isp H1 with ⟨c1,H1⟩|⟨c1,H1⟩;rotate_left
  .skip;rcases isp H1 with ⟨c2,H1⟩|⟨c2,H1⟩;rotate_left
   .skip;rcases isp H1 with ⟨c3,H1⟩|⟨c3,H1⟩;rotate_left
    .skip;rcases isp H1 with ⟨c4,H1⟩|⟨c4,H1⟩;rotate_left
     .skip;rcases isp H1 with ⟨c5,H1⟩|⟨c5,H1⟩;rotate_left
      .skip;rcases isp H1 with ⟨c6,H1⟩|⟨c6,H1⟩;rotate_left
       .skip;rcases isp H1 with ⟨c7,H1⟩|⟨c7,H1⟩;rotate_left
        .skip;rcases isp H1 with ⟨c8,H1⟩|⟨c8,H1⟩;rotate_left
         .skip;rcases isp H1 with ⟨c9,H1⟩|⟨c9,H1⟩;rotate_left
          .skip;refine rk [3,4,5,6,79] [] (f3 hh (zAb c1) (f3 (zAb c2) (zAb c3) (f3 (zAb c4) (zAb c5) (f3 (zAb c6) (zAb c7) (f3 (zAb c8) (zAb c9) (f3 (zkb ax) (zw1 ax) (f3 (z5h ax) (zka ax) (zn0 ax)))))))) fun h hh=>?_;cases H1;exact ce hh ⟨kq hh,rfl⟩
          refine rk [3,4,5,6,79] [] (f3 hh (zAb c1) (f3 (zAb c2) (zAb c3) (f3 (zAb c4) (zAb c5) (f3 (zAb c6) (zAb c7) (f3 (zAb c8) (zAa c9) (f3 (zkb ax) (zw1 ax) (f3 (z5h ax) (zka ax) (zn0 ax)))))))) fun h hh=>?_;cases H1;exact ce hh ⟨kq hh,rfl⟩
         refine rk [3,4,5,6,79] [] (f3 hh (zAb c1) (f3 (zAb c2) (zAb c3) (f3 (zAb c4) (zAb c5) (f3 (zAb c6) (zAb c7) (f3 (zAa c8) (zkb ax) (f3 (zw1 ax) (zka ax) (zn0 ax))))))) fun h hh=>?_;cases H1;exact ce hh ⟨kq hh,rfl⟩
        refine rk [3,4,5,6,79] [] (f3 hh (zAb c1) (f3 (zAb c2) (zAb c3) (f3 (zAb c4) (zAb c5) (f3 (zAb c6) (zAa c7) (f3 (zkb ax) (zw1 ax) (f2 (zka ax) (zn0 ax))))))) fun h hh=>?_;cases H1;exact ce hh ⟨kq hh,rfl⟩
       refine rk [3,4,5,6,79] [] (f3 hh (zAb c1) (f3 (zAb c2) (zAb c3) (f3 (zAb c4) (zAb c5) (f3 (zAa c6) (zkb ax) (f2 (zka ax) (zn0 ax)))))) fun h hh=>?_;cases H1;exact ce hh ⟨kq hh,rfl⟩
      refine rk [3,4,5,6,79] [] (f3 hh (zAb c1) (f3 (zAb c2) (zAb c3) (f3 (zAb c4) (zAa c5) (f3 (zkb ax) (zka ax) (zn0 ax))))) fun h hh=>?_;cases H1;exact ce hh ⟨kq hh,rfl⟩
     refine rk [3,4,5,6,79] [] (f3 hh (zAb c1) (f3 (zAb c2) (zAb c3) (f3 (zAa c4) (zkb ax) (zka ax)))) fun h hh=>?_;cases H1;exact ce hh ⟨kq hh,rfl⟩
    refine rk [3,4,5,6,79] [] (f3 hh (zAb c1) (f3 (zAb c2) (zAa c3) (f2 (zkb ax) (zka ax)))) fun h hh=>?_;cases H1;exact ce hh ⟨kq hh,rfl⟩
   refine rk [3,4,5,6,79] [] (f3 hh (zAb c1) (f2 (zAa c2) (zkb ax))) fun h hh=>?_;cases H1;exact ce hh ⟨kq hh,rfl⟩
  refine rk [3,4,5,6,79] [] (f3 hh (zAa c1) (zkb ax)) fun h hh=>?_;cases H1;exact ce hh ⟨kq hh,rfl⟩
 clear hh h;rintro h bs ⟨hh,rfl⟩;rcases isb H with ⟨c10,H⟩|⟨c10,H⟩;rotate_left
 .skip;refine cf (f2 hh c10) ?_;refine sk ?_;obtain ⟨g11,H⟩:=isg H;apply dv;refine rk [3,4,5,6,7] [] (f3 hh c10 (f2 (zaf g11) (zka ax))) fun h hh=>?_;obtain ⟨s_2,H1,H⟩:=zad H;repeat apply dv
  refine cu [4,5,6,7,120] 4 (fun h bs=>(h 4=.ptr 1 0 3/\h 5=.ptr 2 0 6/\h 6=.ptr 3 0 4/\h 7=.int .i64 ((gx n.links m_.out).to)/\h 120=.bool s_2)/\bs=[.cells true 3 [zau n.nodes,zav n.links,zaw n.edges],.cells true 3 [.int .i64 c.version,zak c.tables,zah c.steps],.cells true 6 [.int .i64 m_.node,.int .i64 m_.port,.int .i64 m_.tag,.int .i64 m_.out,.int .i64 m_.back,.int .i64 m_.first],.cells true 4 [.int .i64 0,.nils,.nils,.int .i64 0]]) ?_ ?_
  .skip;rcases isp H1 with ⟨c12,H1⟩|⟨c12,H1⟩;rotate_left
   .skip;obtain ⟨g13,H1⟩:=isg H1;rcases isp H1 with ⟨c14,H1⟩|⟨c14,H1⟩;rotate_left
    .skip;refine dk 31 [4,5,6,7,120] [] [] [] (f3 hh (zAb c12) (f3 (zAb c14) c10 (f3 (zaf g11) (zaf g13) (f3 (zkb ax) (zka ax) (zn0 ax))))) trivial trivial fun h hh=>?_;cases H1;exact ce hh ⟨kq hh,rfl⟩
    refine dk 31 [4,5,6,7,120] [] [] [] (f3 hh (zAb c12) (f3 (zAa c14) c10 (f3 (zaf g11) (zaf g13) (f3 (zkb ax) (zka ax) (zn0 ax))))) trivial trivial fun h hh=>?_;cases H1;exact ce hh ⟨kq hh,rfl⟩
   refine dk 31 [4,5,6,7,120] [] [] [] (f3 hh (zAa c12) (f3 c10 (zaf g11) (f2 (zkb ax) (zka ax)))) trivial trivial fun h hh=>?_;cases H1;exact ce hh ⟨kq hh,rfl⟩
  clear hh h;rintro h bs ⟨hh,rfl⟩;rcases isb H with ⟨c15,H⟩|⟨c15,H⟩;rotate_left
  .skip;refine cf (f2 hh c15) ?_;refine sk ?_;obtain ⟨g16,H⟩:=isg H;apply dv;refine rk [4,5,6,7,8] [] (f3 hh c10 (f3 c15 (zaf g16) (zkb ax))) fun h hh=>?_;obtain ⟨g17,H⟩:=isg H;apply dv;refine rk [4,5,6,7,8,9] [] (f3 hh c10 (f2 c15 (zaf g17))) fun h hh=>?_;obtain ⟨ac,e18,H⟩:=zad H;apply dv;refine rkp [4,5,6,7,8,9,10] [] [ints ac] (f3 hh c10 (f3 c15 (zw1 ax) (z5h ax))) ?_ ?_
   .exact ⟨fc (f6 (z1a ax hx k (gx c.tables m_.node) m_.port m_.tag ac e18 ) (by first|rfl|simp only [c10,c15])),trivial⟩
   clear hh h;intro h hh;repeat apply dv
   refine rk [4,5,6,7,8,9,10,141] [] (f3 hh c10 c15) fun h hh=>?_;rcases isp H with ⟨c19,H⟩|⟨c19,H⟩;rotate_left
   .skip;refine cf (f2 hh (zAb c19)) ?_;refine sk ?_;obtain ⟨ah,e20,H⟩:=zad H;apply dv;refine rkp [4,5,6,7,8,9,10,11] [] [zag ah] (f3 hh c10 c15) ?_ ?_
    .exact ⟨fc (f6 (zu2 ax hx k (gx c.tables m_.node) ac ah e20 ) (by first|rfl|simp only [c10,c15])),trivial⟩
    clear hh h;intro h hh;obtain ⟨s_3,H1,H⟩:=zad H;repeat apply dv
    refine cu [4,5,6,7,8,9,10,11,156] 4 (fun h bs=>(h 4=.ptr 1 0 3/\h 5=.ptr 2 0 6/\h 6=.ptr 3 0 4/\h 7=.int .i64 ((gx n.links m_.out).to)/\h 8=zag (gx c.tables m_.node)/\h 9=zag (gx c.tables ((gx n.links m_.out).to))/\h 10=ints ac/\h 11=zag ah/\h 156=.bool s_3)/\bs=[.cells true 3 [zau n.nodes,zav n.links,zaw n.edges],.cells true 3 [.int .i64 c.version,zak c.tables,zah c.steps],.cells true 6 [.int .i64 m_.node,.int .i64 m_.port,.int .i64 m_.tag,.int .i64 m_.out,.int .i64 m_.back,.int .i64 m_.first],.cells true 4 [.int .i64 0,.nils,.nils,.int .i64 0]]) ?_ ?_
    .skip;rcases isp H1 with ⟨c21,H1⟩|⟨c21,H1⟩;rotate_left
     .skip;refine rk [4,5,6,7,8,9,10,11,156] [] (f3 hh (zAb c21) (f3 c10 c15 (ztn ax))) fun h hh=>?_;cases H1;exact ce hh ⟨kq hh,rfl⟩
     refine rk [4,5,6,7,8,9,10,11,156] [] (f3 hh (zAa c21) (f3 c10 c15 (ztn ax))) fun h hh=>?_;cases H1;exact ce hh ⟨kq hh,rfl⟩
    clear hh h;rintro h bs ⟨hh,rfl⟩;rcases isb H with ⟨c22,H⟩|⟨c22,H⟩;rotate_left
    .skip;refine cf (f2 hh c22) ?_;refine sk ?_;obtain ⟨ar,e23,H⟩:=zad H;apply dv;refine rkp [4,5,6,7,8,9,10,11,12] [] [.bool ar] (f3 hh c10 (f3 c15 c22 (f2 (zka ax) (ztn ax)))) ?_ ?_
     .exact ⟨fc (f6 (zp7 ax hx k (gx c.tables ((gx n.links m_.out).to)) m_.out m_.first ar e23 ) (by first|rfl|simp only [c10,c15,c22])),trivial⟩
     clear hh h;intro h hh;repeat apply dv
     refine rk [4,5,6,7,8,9,10,11,12,13] [] (f3 hh c10 (f2 c15 c22)) fun h hh=>?_;obtain ⟨s_4,H1,H⟩:=zad H;refine cu [4,5,6,7,8,9,10,11,12] 4 (fun h bs=>(h 4=.ptr 1 0 3/\h 5=.ptr 2 0 6/\h 6=.ptr 3 0 4/\h 7=.int .i64 ((gx n.links m_.out).to)/\h 8=zag (gx c.tables m_.node)/\h 9=zag (gx c.tables ((gx n.links m_.out).to))/\h 10=ints ac/\h 11=zag ah/\h 12=.bool s_4)/\bs=[.cells true 3 [zau n.nodes,zav n.links,zaw n.edges],.cells true 3 [.int .i64 c.version,zak c.tables,zah c.steps],.cells true 6 [.int .i64 m_.node,.int .i64 m_.port,.int .i64 m_.tag,.int .i64 m_.out,.int .i64 m_.back,.int .i64 m_.first],.cells true 4 [.int .i64 0,.nils,.nils,.int .i64 0]]) ?_ ?_
     .skip;apply ey;refine gt [4,5,6,7,8,9,10,11,12,13] (fun m h bs=>∃ (used:Bool) (k_:Int),zeo k c m_ ah m used k_=some s_4/\(h 4=.ptr 1 0 3/\h 5=.ptr 2 0 6/\h 6=.ptr 3 0 4/\h 7=.int .i64 ((gx n.links m_.out).to)/\h 8=zag (gx c.tables m_.node)/\h 9=zag (gx c.tables ((gx n.links m_.out).to))/\h 10=ints ac/\h 11=zag ah/\h 12=.bool used/\h 13=.int .i64 k_)/\bs=[.cells true 3 [zau n.nodes,zav n.links,zaw n.edges],.cells true 3 [.int .i64 c.version,zak c.tables,zah c.steps],.cells true 6 [.int .i64 m_.node,.int .i64 m_.port,.int .i64 m_.tag,.int .i64 m_.out,.int .i64 m_.back,.int .i64 m_.first],.cells true 4 [.int .i64 0,.nils,.nils,.int .i64 0]]) ?_ k _ _ ?_;rotate_left
      .exact ⟨ar,0,H1,kq hh,rfl⟩
      clear hh h H1;rintro m h bs ⟨used,k_,H1,hh,rfl⟩;rcases m with _|m
      .rw [zeo] at H1;cases H1
      rw [zeo] at H1;repeat apply dv
      refine rk [4,5,6,7,8,9,10,11,12,13,167] [] (f3 hh c10 (f2 c15 c22)) fun h hh=>?_;rcases isp H1 with ⟨c24,H1⟩|⟨c24,H1⟩;rotate_left
      .skip;refine cf (f2 hh (zAb c24)) ?_;refine xk ?_;cases H1;exact ce hh ⟨kq hh,rfl⟩
      refine ct (f2 hh (zAa c24)) ?_;refine sk ?_;apply dv;apply ey;obtain ⟨ck,e25,H1⟩:=zad H1;apply dv;refine rkp [4,5,6,7,8,9,10,11,12,13,14] [] [.bool ck] (f3 hh c10 (f3 c15 c22 (f2 (zn0 ax) (ztn ax)))) ?_ ?_
      .exact ⟨fc (f6 (zp7 ax hx k (gx c.tables m_.node) m_.back (dx.wrap ((dx.wrap (m_.first+1))+k_)) ck e25 ) (by first|rfl|simp only [c10,c15,c22])),trivial⟩
      clear hh h;intro h hh;rcases isb H1 with ⟨c26,H1⟩|⟨c26,H1⟩;rotate_left
      .skip;refine rk [4,5,6,7,8,9,10,11,12,13] [] (f3 hh c26 (f3 c10 c15 c22)) fun h hh=>?_;refine rk [4,5,6,7,8,9,10,11,12,13] [] (f3 hh c10 (f3 c15 c22 c26)) fun h hh=>?_;exact rd m hh ⟨ck,(dx.wrap (k_+1)),H1,kq hh,rfl⟩
      refine rk [4,5,6,7,8,9,10,11,12,13] [] (f3 hh c26 (f3 c10 c15 c22)) fun h hh=>?_;refine rk [4,5,6,7,8,9,10,11,12,13] [] (f3 hh c10 (f3 c15 c22 c26)) fun h hh=>?_;exact rd m hh ⟨true,(dx.wrap (k_+1)),H1,kq hh,rfl⟩
     clear hh h;rintro h bs ⟨hh,rfl⟩;repeat apply dv
     refine rk [4,5,6,7,8,9,10,11,183] [] (f3 hh c10 (f2 c15 c22)) fun h hh=>?_;rcases isb H with ⟨c27,H⟩|⟨c27,H⟩;rotate_left
     .skip;refine cf (f2 hh c27) ?_;refine sk ?_;obtain ⟨rb,e28,H⟩:=zad H;apply dv;refine rkc [4,5,6,7,8,9,10,11,15] [] [(.arr 4 23 0 rb.2 rb.2 (rb.2*23),stL [.cells true 3 [zau n.nodes,zav n.links,zaw n.edges],.cells true 3 [.int .i64 c.version,zak c.tables,zah c.steps],.cells true 6 [.int .i64 m_.node,.int .i64 m_.port,.int .i64 m_.tag,.int .i64 m_.out,.int .i64 m_.back,.int .i64 m_.first],.cells true 4 [.int .i64 0,.nils,.nils,.int .i64 0],.cells false (rb.2*23) (vecC zai rb.1)])] (f3 hh c10 (f3 c15 c22 c27)) ?_ ?_
      .exact ⟨car [4] (zr1 ax hx k (gx c.tables m_.node) ac rb e28),trivial⟩
      clear hh h;intro h hh;obtain ⟨rAt,e29,H⟩:=zad H;obtain ⟨bn,e30,H⟩:=zad H;obtain ⟨g31,H⟩:=isg H;apply dv;refine dg 10 [ePat rAt] [] [(zbb bn,stL [.cells true 3 [zau n.nodes,zav n.links,zaw n.edges],.cells true 3 [.int .i64 c.version,zak c.tables,zah c.steps],.cells true 6 [.int .i64 m_.node,.int .i64 m_.port,.int .i64 m_.tag,.int .i64 m_.out,.int .i64 m_.back,.int .i64 m_.first],.cells true 4 [.int .i64 0,.nils,.nils,.int .i64 0],.cells false (rb.2*23) (vecC zai rb.1)])] [.cells true 3 [zau n.nodes,zav n.links,zaw n.edges],.cells true 3 [.int .i64 c.version,zak c.tables,zah c.steps],.cells true 6 [.int .i64 m_.node,.int .i64 m_.port,.int .i64 m_.tag,.int .i64 m_.out,.int .i64 m_.back,.int .i64 m_.first],.cells true 4 [.int .i64 0,.nils,.nils,.int .i64 0],.cells false ((rb.2+1)*23) (vecC zai (rb.1++[(⟨0,rAt,(-1),bn⟩:Rule)]))] (fun h=>h 4=.ptr 1 0 3/\h 5=.ptr 2 0 6/\h 6=.ptr 3 0 4/\h 7=.int .i64 ((gx n.links m_.out).to)/\h 8=zag (gx c.tables m_.node)/\h 9=zag (gx c.tables ((gx n.links m_.out).to))/\h 10=ints ac/\h 11=zag ah/\h 15=.arr 4 23 0 (rb.2+1) (rb.2+1) ((rb.2+1)*23)) (f3 hh c10 (f3 c15 c22 (f3 c27 ((show vecC zai [(⟨0,rAt,(-1),bn⟩:Rule)]=(dy .i64 ((⟨0,rAt,(-1),bn⟩:Rule).prio) :: ((((⟨0,rAt,(-1),bn⟩:Rule).mat).mask).l.map (dy .i64)++((((⟨0,rAt,(-1),bn⟩:Rule).mat).bits).l.map (dy .i64)++[dy .i64 ((⟨0,rAt,(-1),bn⟩:Rule).step),zbb ((⟨0,rAt,(-1),bn⟩:Rule).outs)]))) from zga.trans rfl)) (f3 (yda ax) (zw1 ax) (f3 (z5h ax) (zka ax) (f3 (ztn ax) (zr8 ax) (f2 (zr7 ax) (z1s ax)))))))) ?_ ?_ ?_
      .exact ⟨f6 (zlf ax hx k m_.port m_.tag rAt e29 ) (by first|rfl|simp only [c10,c15,c22,c27]),trivial⟩
      .exact ⟨fc (f6 (zsu ax hx k m_.out m_.first bn e30 ) (by first|rfl|simp only [c10,c15,c22,c27])),trivial⟩
      clear hh h;intro h hh;repeat apply dv
      refine rk [4,5,6,7,8,9,10,11,15,16] [] (f3 hh c10 (f3 c15 c22 c27)) fun h hh=>?_;obtain ⟨s_5,H1,H⟩:=zad H;refine cu [4,5,6,7,8,9,10,11,15] 5 (fun h bs=>(h 4=.ptr 1 0 3/\h 5=.ptr 2 0 6/\h 6=.ptr 3 0 4/\h 7=.int .i64 ((gx n.links m_.out).to)/\h 8=zag (gx c.tables m_.node)/\h 9=zag (gx c.tables ((gx n.links m_.out).to))/\h 10=ints ac/\h 11=zag ah/\h 15=.arr 4 23 0 s_5.2 s_5.2 (s_5.2*23))/\bs=[.cells true 3 [zau n.nodes,zav n.links,zaw n.edges],.cells true 3 [.int .i64 c.version,zak c.tables,zah c.steps],.cells true 6 [.int .i64 m_.node,.int .i64 m_.port,.int .i64 m_.tag,.int .i64 m_.out,.int .i64 m_.back,.int .i64 m_.first],.cells true 4 [.int .i64 0,.nils,.nils,.int .i64 0],.cells false (s_5.2*23) (vecC zai s_5.1)]) ?_ ?_
      .skip;apply ey;refine gt [4,5,6,7,8,9,10,11,15,16] (fun m h bs=>∃ (k_2:Int) (l:List Rule) (n2:Nat),zen k m_ ah m k_2 l n2=some s_5/\(h 4=.ptr 1 0 3/\h 5=.ptr 2 0 6/\h 6=.ptr 3 0 4/\h 7=.int .i64 ((gx n.links m_.out).to)/\h 8=zag (gx c.tables m_.node)/\h 9=zag (gx c.tables ((gx n.links m_.out).to))/\h 10=ints ac/\h 11=zag ah/\h 15=.arr 4 23 0 n2 n2 (n2*23)/\h 16=.int .i64 k_2)/\bs=[.cells true 3 [zau n.nodes,zav n.links,zaw n.edges],.cells true 3 [.int .i64 c.version,zak c.tables,zah c.steps],.cells true 6 [.int .i64 m_.node,.int .i64 m_.port,.int .i64 m_.tag,.int .i64 m_.out,.int .i64 m_.back,.int .i64 m_.first],.cells true 4 [.int .i64 0,.nils,.nils,.int .i64 0],.cells false (n2*23) (vecC zai l)]) ?_ k _ _ ?_;rotate_left
       .exact ⟨0,(rb.1++[(⟨0,rAt,(-1),bn⟩:Rule)]),(rb.2+1),H1,kq hh,rfl⟩
       clear hh h H1;rintro m h bs ⟨k_2,l,n2,H1,hh,rfl⟩;rcases m with _|m
       .rw [zen] at H1;cases H1
       rw [zen] at H1;repeat apply dv
       refine rk [4,5,6,7,8,9,10,11,15,16,205] [] (f3 hh c10 (f3 c15 c22 c27)) fun h hh=>?_;rcases isp H1 with ⟨c32,H1⟩|⟨c32,H1⟩;rotate_left
       .skip;refine cf (f2 hh (zAb c32)) ?_;refine xk ?_;cases H1;exact ce hh ⟨kq hh,rfl⟩
       refine ct (f2 hh (zAa c32)) ?_;refine sk ?_;apply dv;apply ey;obtain ⟨bj,e33,H1⟩:=zad H1;obtain ⟨g34,H1⟩:=isg H1;obtain ⟨bk,e35,H1⟩:=zad H1;obtain ⟨g36,H1⟩:=isg H1;refine dg 24 [ePat bj,zbb bk] [] [] [.cells true 3 [zau n.nodes,zav n.links,zaw n.edges],.cells true 3 [.int .i64 c.version,zak c.tables,zah c.steps],.cells true 6 [.int .i64 m_.node,.int .i64 m_.port,.int .i64 m_.tag,.int .i64 m_.out,.int .i64 m_.back,.int .i64 m_.first],.cells true 4 [.int .i64 0,.nils,.nils,.int .i64 0],.cells false ((n2+1)*23) (vecC zai (l++[(⟨0,bj,(gx ah k_2).step,bk⟩:Rule)]))] (fun h=>h 4=.ptr 1 0 3/\h 5=.ptr 2 0 6/\h 6=.ptr 3 0 4/\h 7=.int .i64 ((gx n.links m_.out).to)/\h 8=zag (gx c.tables m_.node)/\h 9=zag (gx c.tables ((gx n.links m_.out).to))/\h 10=ints ac/\h 11=zag ah/\h 15=.arr 4 23 0 (n2+1) (n2+1) ((n2+1)*23)/\h 16=.int .i64 k_2) (f3 hh c10 (f3 c15 c22 (f3 c27 (zaf g34) (f3 ((show vecC zai [(⟨0,bj,(gx ah k_2).step,bk⟩:Rule)]=(dy .i64 ((⟨0,bj,(gx ah k_2).step,bk⟩:Rule).prio) :: ((((⟨0,bj,(gx ah k_2).step,bk⟩:Rule).mat).mask).l.map (dy .i64)++((((⟨0,bj,(gx ah k_2).step,bk⟩:Rule).mat).bits).l.map (dy .i64)++[dy .i64 ((⟨0,bj,(gx ah k_2).step,bk⟩:Rule).step),zbb ((⟨0,bj,(gx ah k_2).step,bk⟩:Rule).outs)]))) from zga.trans rfl)) (yda ax) (f3 (zw1 ax) (z5h ax) (f3 (zn0 ax) (ztn ax) (f3 (yp2 ax) (zr8 ax) (f2 (zr7 ax) (z1s ax))))))))) ?_ trivial ?_
       .exact ⟨f6 (zlf ax hx k m_.back (dx.wrap ((dx.wrap (m_.first+1))+k_2)) bj e33 ) (by first|rfl|simp only [c10,c15,c22,c27]),f6 (zr0 ax hx k ((gx ah k_2).outs) m_.port m_.tag bk e35 ) (by first|rfl|simp only [c10,c15,c22,c27]),trivial⟩
       clear hh h;intro h hh;refine rk [4,5,6,7,8,9,10,11,15,16] [] (f3 hh c10 (f3 c15 c22 c27)) fun h hh=>?_;exact rd m hh ⟨(dx.wrap (k_2+1)),(l++[(⟨0,bj,(gx ah k_2).step,bk⟩:Rule)]),(n2+1),H1,kq hh,rfl⟩
      clear hh h;rintro h bs ⟨hh,rfl⟩;apply dv;refine rk [4,5,6,7,8,9,10,11,15,17] [] (f3 hh c10 (f3 c15 c22 c27)) fun h hh=>?_;refine vk 17 23 [4,5,6,7,8,9,10,11,15,17] hh fun h hh=>?_;obtain ⟨s_6,H1,H⟩:=zad H;apply dv;refine cu [4,5,6,7,8,10,11,15,17] 6 (fun h bs=>(h 4=.ptr 1 0 3/\h 5=.ptr 2 0 6/\h 6=.ptr 3 0 4/\h 7=.int .i64 ((gx n.links m_.out).to)/\h 8=zag (gx c.tables m_.node)/\h 10=ints ac/\h 11=zag ah/\h 15=.arr 4 23 0 s_5.2 s_5.2 (s_5.2*23)/\h 17=.arr 5 23 0 s_6.2 s_6.2 (s_6.2*23))/\bs=[.cells true 3 [zau n.nodes,zav n.links,zaw n.edges],.cells true 3 [.int .i64 c.version,zak c.tables,zah c.steps],.cells true 6 [.int .i64 m_.node,.int .i64 m_.port,.int .i64 m_.tag,.int .i64 m_.out,.int .i64 m_.back,.int .i64 m_.first],.cells true 4 [.int .i64 0,.nils,.nils,.int .i64 0],.cells false (s_5.2*23) (vecC zai s_5.1),.cells false (s_6.2*23) (vecC zai s_6.1)]) ?_ ?_
      .skip;obtain ⟨g37,H1⟩:=isg H1;rcases isp H1 with ⟨c38,H1⟩|⟨c38,H1⟩;rotate_left
       .skip;refine rg [] [] [.cells true 3 [zau n.nodes,zav n.links,zaw n.edges],.cells true 3 [.int .i64 c.version,zak c.tables,zah c.steps],.cells true 6 [.int .i64 m_.node,.int .i64 m_.port,.int .i64 m_.tag,.int .i64 m_.out,.int .i64 m_.back,.int .i64 m_.first],.cells true 4 [.int .i64 0,.nils,.nils,.int .i64 0],.cells false (s_5.2*23) (vecC zai s_5.1),.cells false (((gx c.tables ((gx n.links m_.out).to)).length)*23) (vecC zai (gx c.tables ((gx n.links m_.out).to)))] (fun h=>h 4=.ptr 1 0 3/\h 5=.ptr 2 0 6/\h 6=.ptr 3 0 4/\h 7=.int .i64 ((gx n.links m_.out).to)/\h 8=zag (gx c.tables m_.node)/\h 10=ints ac/\h 11=zag ah/\h 15=.arr 4 23 0 s_5.2 s_5.2 (s_5.2*23)/\h 17=.arr 5 23 0 ((gx c.tables ((gx n.links m_.out).to)).length) ((gx c.tables ((gx n.links m_.out).to)).length) (((gx c.tables ((gx n.links m_.out).to)).length)*23)) (f3 hh c10 (f3 c15 c22 (f3 c27 (zkt zai (gx c.tables ((gx n.links m_.out).to))) (f2 (zhv (f:=zai) (e:=23) (fun x=>zbc x) (gx c.tables ((gx n.links m_.out).to))) (zje (f:=zai) (fun x=>znq x) (gx c.tables ((gx n.links m_.out).to))))))) trivial fun h hh=>?_;cases H1;exact ce hh ⟨kq hh,rfl⟩
       refine rg [] [] [.cells true 3 [zau n.nodes,zav n.links,zaw n.edges],.cells true 3 [.int .i64 c.version,zak c.tables,zah c.steps],.cells true 6 [.int .i64 m_.node,.int .i64 m_.port,.int .i64 m_.tag,.int .i64 m_.out,.int .i64 m_.back,.int .i64 m_.first],.cells true 4 [.int .i64 0,.nils,.nils,.int .i64 0],.cells false (s_5.2*23) (vecC zai s_5.1),.cells false 0 (vecC zai [])] (fun h=>h 4=.ptr 1 0 3/\h 5=.ptr 2 0 6/\h 6=.ptr 3 0 4/\h 7=.int .i64 ((gx n.links m_.out).to)/\h 8=zag (gx c.tables m_.node)/\h 10=ints ac/\h 11=zag ah/\h 15=.arr 4 23 0 s_5.2 s_5.2 (s_5.2*23)/\h 17=.arr 5 23 0 0 0 0) (f3 hh c10 (f3 c15 c22 (f3 c27 c38 (f3 (zkt zai (gx c.tables ((gx n.links m_.out).to))) (zhv (f:=zai) (e:=23) (fun x=>zbc x) (gx c.tables ((gx n.links m_.out).to))) (zje (f:=zai) (fun x=>znq x) (gx c.tables ((gx n.links m_.out).to))))))) trivial fun h hh=>?_;cases H1;exact ce hh ⟨kq hh,rfl⟩
      clear hh h;rintro h bs ⟨hh,rfl⟩;repeat apply dv
      refine rk [4,5,6,7,8,10,11,15,17,18] [] (f3 hh c10 (f3 c15 c22 c27)) fun h hh=>?_;obtain ⟨s_7,H1,H⟩:=zad H;refine cu [4,5,6,7,15,17] 6 (fun h bs=>(h 4=.ptr 1 0 3/\h 5=.ptr 2 0 6/\h 6=.ptr 3 0 4/\h 7=.int .i64 ((gx n.links m_.out).to)/\h 15=.arr 4 23 0 s_5.2 s_5.2 (s_5.2*23)/\h 17=.arr 5 23 0 s_7.2 s_7.2 (s_7.2*23))/\bs=[.cells true 3 [zau n.nodes,zav n.links,zaw n.edges],.cells true 3 [.int .i64 c.version,zak c.tables,zah c.steps],.cells true 6 [.int .i64 m_.node,.int .i64 m_.port,.int .i64 m_.tag,.int .i64 m_.out,.int .i64 m_.back,.int .i64 m_.first],.cells true 4 [.int .i64 0,.nils,.nils,.int .i64 0],.cells false (s_5.2*23) (vecC zai s_5.1),.cells false (s_7.2*23) (vecC zai s_7.1)]) ?_ ?_
      .skip;apply ey;refine gt [4,5,6,7,8,10,11,15,17,18] (fun m h bs=>∃ (i:Int) (l2:List Rule) (n3:Nat),zd0 k c m_ ac ah m i l2 n3=some s_7/\(h 4=.ptr 1 0 3/\h 5=.ptr 2 0 6/\h 6=.ptr 3 0 4/\h 7=.int .i64 ((gx n.links m_.out).to)/\h 8=zag (gx c.tables m_.node)/\h 10=ints ac/\h 11=zag ah/\h 15=.arr 4 23 0 s_5.2 s_5.2 (s_5.2*23)/\h 17=.arr 5 23 0 n3 n3 (n3*23)/\h 18=.int .i64 i)/\bs=[.cells true 3 [zau n.nodes,zav n.links,zaw n.edges],.cells true 3 [.int .i64 c.version,zak c.tables,zah c.steps],.cells true 6 [.int .i64 m_.node,.int .i64 m_.port,.int .i64 m_.tag,.int .i64 m_.out,.int .i64 m_.back,.int .i64 m_.first],.cells true 4 [.int .i64 0,.nils,.nils,.int .i64 0],.cells false (s_5.2*23) (vecC zai s_5.1),.cells false (n3*23) (vecC zai l2)]) ?_ k _ _ ?_;rotate_left
       .exact ⟨0,s_6.1,s_6.2,H1,kq hh,rfl⟩
       clear hh h H1;rintro m h bs ⟨i,l2,n3,H1,hh,rfl⟩;rcases m with _|m
       .rw [zd0] at H1;cases H1
       rw [zd0] at H1;repeat apply dv
       refine rk [4,5,6,7,8,10,11,15,17,18,241] [] (f3 hh c10 (f3 c15 c22 c27)) fun h hh=>?_;rcases isp H1 with ⟨c39,H1⟩|⟨c39,H1⟩;rotate_left
       .skip;refine cf (f2 hh (zAb c39)) ?_;refine xk ?_;cases H1;exact ce hh ⟨kq hh,rfl⟩
       refine ct (f2 hh (zAa c39)) ?_;refine sk ?_;apply dv;apply ey;obtain ⟨g40,H1⟩:=isg H1;obtain ⟨g41,H1⟩:=isg H1;apply dv;refine rk [4,5,6,7,8,10,11,15,17,18,19] [] (f3 hh c10 (f3 c15 c22 (f3 c27 (zaf g40) (zaf g41)))) fun h hh=>?_;apply dv;refine rk [4,5,6,7,8,10,11,15,17,18,19,20] [] (f3 hh c10 (f3 c15 c22 (f3 c27 (yda ax) (f2 (zr8 ax) (zr7 ax))))) fun h hh=>?_;obtain ⟨g42,H1⟩:=isg H1;apply dv;refine rk [4,5,6,7,8,10,11,15,17,18,19,20] [] (f3 hh c10 (f3 c15 c22 (f3 c27 (setAt (k:=.i64) (off:=11) (L:=(dy .i64 0 :: ((((gx (gx c.tables m_.node) (gx ac i)).mat).mask).l.map (dy .i64)++((((gx (gx c.tables m_.node) (gx ac i)).mat).bits).l.map (dy .i64)++[dy .i64 (-1),qd])))) (r:=[.int .i64 (-1),.nils]) (L2:=(dy .i64 0 :: ((((gx (gx c.tables m_.node) (gx ac i)).mat).mask).l.map (dy .i64)++(((((gx (gx c.tables m_.node) (gx ac i)).mat).bits).set 0 m_.out).l.map (dy .i64)++[dy .i64 (-1),qd])))) (p:=(dy .i64 0 :: ((((gx (gx c.tables m_.node) (gx ac i)).mat).mask).l.map (dy .i64)))) (((gx (gx c.tables m_.node) (gx ac i)).mat).bits) m_.out g42) (zka ax)))) fun h hh=>?_;obtain ⟨g43,H1⟩:=isg H1;apply dv;refine rk [4,5,6,7,8,10,11,15,17,18,19,20] [] (f3 hh c10 (f3 c15 c22 (f3 c27 (setAt (k:=.i64) (off:=11) (L:=(dy .i64 0 :: ((((gx (gx c.tables m_.node) (gx ac i)).mat).mask).l.map (dy .i64)++(((((gx (gx c.tables m_.node) (gx ac i)).mat).bits).set 0 m_.out).l.map (dy .i64)++[dy .i64 (-1),qd])))) (r:=[.int .i64 (-1),.nils]) (L2:=(dy .i64 0 :: ((((gx (gx c.tables m_.node) (gx ac i)).mat).mask).l.map (dy .i64)++((((((gx (gx c.tables m_.node) (gx ac i)).mat).bits).set 0 m_.out).set 9 m_.first).l.map (dy .i64)++[dy .i64 (-1),qd])))) (p:=(dy .i64 0 :: ((((gx (gx c.tables m_.node) (gx ac i)).mat).mask).l.map (dy .i64)))) ((((gx (gx c.tables m_.node) (gx ac i)).mat).bits).set 0 m_.out) m_.first g43) (ztn ax)))) fun h hh=>?_;obtain ⟨ba,e44,H1⟩:=zad H1;apply dv;refine rkp [4,5,6,7,8,10,11,15,17,18,19,20,21] [] [.bool ba] (f3 hh c10 (f3 c15 c22 c27)) ?_ ?_
       .exact ⟨fc (f6 (zqb ax hx k (⟨(gx (gx c.tables m_.node) (gx ac i)).prio,((gx (gx c.tables m_.node) (gx ac i)).mat),(gx (gx c.tables m_.node) (gx ac i)).step,(gx (gx c.tables m_.node) (gx ac i)).outs⟩:Rule) ba e44 ) (by first|rfl|simp only [c10,c15,c22,c27])),trivial⟩
       clear hh h;intro h hh;repeat apply dv
       refine rk [4,5,6,7,8,10,11,15,17,18,19,20,267] [] (f3 hh c10 (f3 c15 c22 c27)) fun h hh=>?_;rcases isb H1 with ⟨c45,H1⟩|⟨c45,H1⟩;rotate_left
       .skip;refine ct (f2 hh c45) ?_;obtain ⟨bu,e47,H1⟩:=zad H1;obtain ⟨be,e48,H1⟩:=zad H1;refine dk 8 [4,5,6,7,8,10,11,15,17,18,20] [.int .i64 bu] [] [(zbb be,stL [.cells true 3 [zau n.nodes,zav n.links,zaw n.edges],.cells true 3 [.int .i64 c.version,zak c.tables,zah c.steps],.cells true 6 [.int .i64 m_.node,.int .i64 m_.port,.int .i64 m_.tag,.int .i64 m_.out,.int .i64 m_.back,.int .i64 m_.first],.cells true 4 [.int .i64 0,.nils,.nils,.int .i64 0],.cells false (s_5.2*23) (vecC zai s_5.1),.cells false (n3*23) (vecC zai l2),.cells true 23 (dy .i64 ((gx (gx c.tables m_.node) (gx ac i)).prio) :: ((((gx (gx c.tables m_.node) (gx ac i)).mat).mask).l.map (dy .i64)++((((gx (gx c.tables m_.node) (gx ac i)).mat).bits).l.map (dy .i64)++[dy .i64 ((gx (gx c.tables m_.node) (gx ac i)).step),zbb ((gx (gx c.tables m_.node) (gx ac i)).outs)]))),.cells true 23 (dy .i64 0 :: ((((gx (gx c.tables m_.node) (gx ac i)).mat).mask).l.map (dy .i64)++((((((gx (gx c.tables m_.node) (gx ac i)).mat).bits).set 0 m_.out).set 9 m_.first).l.map (dy .i64)++[dy .i64 (-1),qd])))])] (f3 hh c10 (f3 c15 c22 (f3 c27 c45 (f2 (zn0 ax) (ztn ax))))) ?_ ?_ ?_
        .exact ⟨f6 (zp8 ax hx k ah (⟨(gx (gx c.tables m_.node) (gx ac i)).prio,((gx (gx c.tables m_.node) (gx ac i)).mat),(gx (gx c.tables m_.node) (gx ac i)).step,(gx (gx c.tables m_.node) (gx ac i)).outs⟩:Rule) bu e47 ) (by first|rfl|simp only [c10,c15,c22,c27,c45]),trivial⟩
        .exact ⟨fc (f6 (zsu ax hx k m_.back (dx.wrap ((dx.wrap (m_.first+1))+bu)) be e48 ) (by first|rfl|simp only [c10,c15,c22,c27,c45])),trivial⟩
        clear hh h;intro h hh;obtain ⟨g49,H1⟩:=isg H1;refine rg [] [] [.cells true 3 [zau n.nodes,zav n.links,zaw n.edges],.cells true 3 [.int .i64 c.version,zak c.tables,zah c.steps],.cells true 6 [.int .i64 m_.node,.int .i64 m_.port,.int .i64 m_.tag,.int .i64 m_.out,.int .i64 m_.back,.int .i64 m_.first],.cells true 4 [.int .i64 0,.nils,.nils,.int .i64 0],.cells false (s_5.2*23) (vecC zai s_5.1),.cells false ((n3+1)*23) (vecC zai (l2++[(⟨0,(⟨((gx (gx c.tables m_.node) (gx ac i)).mat).mask,((((gx (gx c.tables m_.node) (gx ac i)).mat).bits).set 0 m_.out).set 9 m_.first⟩:Pat),(-1),be⟩:Rule)])),.cells true 23 (dy .i64 ((gx (gx c.tables m_.node) (gx ac i)).prio) :: ((((gx (gx c.tables m_.node) (gx ac i)).mat).mask).l.map (dy .i64)++((((gx (gx c.tables m_.node) (gx ac i)).mat).bits).l.map (dy .i64)++[dy .i64 ((gx (gx c.tables m_.node) (gx ac i)).step),zbb ((gx (gx c.tables m_.node) (gx ac i)).outs)]))),.cells true 23 (dy .i64 0 :: ((((gx (gx c.tables m_.node) (gx ac i)).mat).mask).l.map (dy .i64)++((((((gx (gx c.tables m_.node) (gx ac i)).mat).bits).set 0 m_.out).set 9 m_.first).l.map (dy .i64)++[dy .i64 (-1),zbb be])))] (fun h=>h 4=.ptr 1 0 3/\h 5=.ptr 2 0 6/\h 6=.ptr 3 0 4/\h 7=.int .i64 ((gx n.links m_.out).to)/\h 8=zag (gx c.tables m_.node)/\h 10=ints ac/\h 11=zag ah/\h 15=.arr 4 23 0 s_5.2 s_5.2 (s_5.2*23)/\h 17=.arr 5 23 0 (n3+1) (n3+1) ((n3+1)*23)/\h 18=.int .i64 i) (f3 hh c10 (f3 c15 c22 (f3 c27 c45 ((show vecC zai [(⟨0,(⟨((gx (gx c.tables m_.node) (gx ac i)).mat).mask,((((gx (gx c.tables m_.node) (gx ac i)).mat).bits).set 0 m_.out).set 9 m_.first⟩:Pat),(-1),be⟩:Rule)]=(dy .i64 ((⟨0,(⟨((gx (gx c.tables m_.node) (gx ac i)).mat).mask,((((gx (gx c.tables m_.node) (gx ac i)).mat).bits).set 0 m_.out).set 9 m_.first⟩:Pat),(-1),be⟩:Rule).prio) :: ((((⟨0,(⟨((gx (gx c.tables m_.node) (gx ac i)).mat).mask,((((gx (gx c.tables m_.node) (gx ac i)).mat).bits).set 0 m_.out).set 9 m_.first⟩:Pat),(-1),be⟩:Rule).mat).mask).l.map (dy .i64)++((((⟨0,(⟨((gx (gx c.tables m_.node) (gx ac i)).mat).mask,((((gx (gx c.tables m_.node) (gx ac i)).mat).bits).set 0 m_.out).set 9 m_.first⟩:Pat),(-1),be⟩:Rule).mat).bits).l.map (dy .i64)++[dy .i64 ((⟨0,(⟨((gx (gx c.tables m_.node) (gx ac i)).mat).mask,((((gx (gx c.tables m_.node) (gx ac i)).mat).bits).set 0 m_.out).set 9 m_.first⟩:Pat),(-1),be⟩:Rule).step),zbb ((⟨0,(⟨((gx (gx c.tables m_.node) (gx ac i)).mat).mask,((((gx (gx c.tables m_.node) (gx ac i)).mat).bits).set 0 m_.out).set 9 m_.first⟩:Pat),(-1),be⟩:Rule).outs)]))) from zga.trans rfl))))) trivial fun h hh=>?_;refine rk [4,5,6,7,8,10,11,15,17,18] [] (f3 hh c10 (f3 c15 c22 (f2 c27 c45))) fun h hh=>?_;exact rd m hh ⟨(dx.wrap (i+1)),(l2++[(⟨0,(⟨((gx (gx c.tables m_.node) (gx ac i)).mat).mask,((((gx (gx c.tables m_.node) (gx ac i)).mat).bits).set 0 m_.out).set 9 m_.first⟩:Pat),(-1),be⟩:Rule)]),(n3+1),H1,kq hh,rfl⟩
       refine cf (f2 hh c45) ?_;refine sk ?_;refine nz 7 22 1 ?_;obtain ⟨g46,H1⟩:=isg H1;refine rg [] [] [.cells true 3 [zau n.nodes,zav n.links,zaw n.edges],.cells true 3 [.int .i64 c.version,zak c.tables,zah c.steps],.cells true 6 [.int .i64 m_.node,.int .i64 m_.port,.int .i64 m_.tag,.int .i64 m_.out,.int .i64 m_.back,.int .i64 m_.first],.cells true 4 [.int .i64 0,.nils,.nils,.int .i64 0],.cells false (s_5.2*23) (vecC zai s_5.1),.cells false ((n3+1)*23) (vecC zai (l2++[(⟨0,(⟨((gx (gx c.tables m_.node) (gx ac i)).mat).mask,((((gx (gx c.tables m_.node) (gx ac i)).mat).bits).set 0 m_.out).set 9 m_.first⟩:Pat),(-1),[]⟩:Rule)])),.cells true 23 (dy .i64 ((gx (gx c.tables m_.node) (gx ac i)).prio) :: ((((gx (gx c.tables m_.node) (gx ac i)).mat).mask).l.map (dy .i64)++((((gx (gx c.tables m_.node) (gx ac i)).mat).bits).l.map (dy .i64)++[dy .i64 ((gx (gx c.tables m_.node) (gx ac i)).step),zbb ((gx (gx c.tables m_.node) (gx ac i)).outs)]))),.cells true 23 (dy .i64 0 :: ((((gx (gx c.tables m_.node) (gx ac i)).mat).mask).l.map (dy .i64)++((((((gx (gx c.tables m_.node) (gx ac i)).mat).bits).set 0 m_.out).set 9 m_.first).l.map (dy .i64)++[dy .i64 (-1),zbb []])))] (fun h=>h 4=.ptr 1 0 3/\h 5=.ptr 2 0 6/\h 6=.ptr 3 0 4/\h 7=.int .i64 ((gx n.links m_.out).to)/\h 8=zag (gx c.tables m_.node)/\h 10=ints ac/\h 11=zag ah/\h 15=.arr 4 23 0 s_5.2 s_5.2 (s_5.2*23)/\h 17=.arr 5 23 0 (n3+1) (n3+1) ((n3+1)*23)/\h 18=.int .i64 i) (f3 hh c10 (f3 c15 c22 (f3 c27 c45 ((show vecC zai [(⟨0,(⟨((gx (gx c.tables m_.node) (gx ac i)).mat).mask,((((gx (gx c.tables m_.node) (gx ac i)).mat).bits).set 0 m_.out).set 9 m_.first⟩:Pat),(-1),[]⟩:Rule)]=(dy .i64 ((⟨0,(⟨((gx (gx c.tables m_.node) (gx ac i)).mat).mask,((((gx (gx c.tables m_.node) (gx ac i)).mat).bits).set 0 m_.out).set 9 m_.first⟩:Pat),(-1),[]⟩:Rule).prio) :: ((((⟨0,(⟨((gx (gx c.tables m_.node) (gx ac i)).mat).mask,((((gx (gx c.tables m_.node) (gx ac i)).mat).bits).set 0 m_.out).set 9 m_.first⟩:Pat),(-1),[]⟩:Rule).mat).mask).l.map (dy .i64)++((((⟨0,(⟨((gx (gx c.tables m_.node) (gx ac i)).mat).mask,((((gx (gx c.tables m_.node) (gx ac i)).mat).bits).set 0 m_.out).set 9 m_.first⟩:Pat),(-1),[]⟩:Rule).mat).bits).l.map (dy .i64)++[dy .i64 ((⟨0,(⟨((gx (gx c.tables m_.node) (gx ac i)).mat).mask,((((gx (gx c.tables m_.node) (gx ac i)).mat).bits).set 0 m_.out).set 9 m_.first⟩:Pat),(-1),[]⟩:Rule).step),zbb ((⟨0,(⟨((gx (gx c.tables m_.node) (gx ac i)).mat).mask,((((gx (gx c.tables m_.node) (gx ac i)).mat).bits).set 0 m_.out).set 9 m_.first⟩:Pat),(-1),[]⟩:Rule).outs)]))) from zga.trans rfl))))) trivial fun h hh=>?_;refine rk [4,5,6,7,8,10,11,15,17,18] [] (f3 hh c10 (f3 c15 c22 (f2 c27 c45))) fun h hh=>?_;exact rd m hh ⟨(dx.wrap (i+1)),(l2++[(⟨0,(⟨((gx (gx c.tables m_.node) (gx ac i)).mat).mask,((((gx (gx c.tables m_.node) (gx ac i)).mat).bits).set 0 m_.out).set 9 m_.first⟩:Pat),(-1),[]⟩:Rule)]),(n3+1),H1,kq hh,rfl⟩
      clear hh h;rintro h bs ⟨hh,rfl⟩;obtain ⟨s_8,H1,H⟩:=zad H;repeat apply dv
      refine cu [4,5,6,7,15,17,290] 6 (fun h bs=>(h 4=.ptr 1 0 3/\h 5=.ptr 2 0 6/\h 6=.ptr 3 0 4/\h 7=.int .i64 ((gx n.links m_.out).to)/\h 15=.arr 4 23 0 s_5.2 s_5.2 (s_5.2*23)/\h 17=.arr 5 23 0 s_7.2 s_7.2 (s_7.2*23)/\h 290=.bool s_8)/\bs=[.cells true 3 [zau n.nodes,zav n.links,zaw n.edges],.cells true 3 [.int .i64 c.version,zak c.tables,zah c.steps],.cells true 6 [.int .i64 m_.node,.int .i64 m_.port,.int .i64 m_.tag,.int .i64 m_.out,.int .i64 m_.back,.int .i64 m_.first],.cells true 4 [.int .i64 0,.nils,.nils,.int .i64 0],.cells false (s_5.2*23) (vecC zai s_5.1),.cells false (s_7.2*23) (vecC zai s_7.1)]) ?_ ?_
      .skip;rcases isp H1 with ⟨c50,H1⟩|⟨c50,H1⟩;rotate_left
       .skip;refine rk [4,5,6,7,15,17,290] [] (f3 hh (zAb c50) (f3 c10 c15 (f2 c22 c27))) fun h hh=>?_;cases H1;exact ce hh ⟨kq hh,rfl⟩
       refine rk [4,5,6,7,15,17,290] [] (f3 hh (zAa c50) (f3 c10 c15 (f2 c22 c27))) fun h hh=>?_;cases H1;exact ce hh ⟨kq hh,rfl⟩
      clear hh h;rintro h bs ⟨hh,rfl⟩;rcases isb H with ⟨c51,H⟩|⟨c51,H⟩;rotate_left
      .skip;refine cf (f2 hh c51) ?_;refine sk ?_;apply dv;refine rk [4,5,6,7,15,17,22] [] (f3 hh c10 (f3 c15 c22 (f3 c27 c51 (f3 (bt30 ax) (yrs ax) (yrr ax))))) fun h hh=>?_;refine vz 6 1 1 ?_;obtain ⟨s_9,H1,H⟩:=zad H;apply dv;refine cu [5,6,7,15,17,22] 8 (fun h bs=>(h 5=.ptr 2 0 6/\h 6=.ptr 3 0 4/\h 7=.int .i64 ((gx n.links m_.out).to)/\h 15=.arr 4 23 0 s_5.2 s_5.2 (s_5.2*23)/\h 17=.arr 5 23 0 s_7.2 s_7.2 (s_7.2*23)/\h 22=.ptr 6 0 3)/\bs=[.cells true 3 [zau n.nodes,zav n.links,zaw n.edges],.cells true 3 [.int .i64 c.version,zak c.tables,zah c.steps],.cells true 6 [.int .i64 m_.node,.int .i64 m_.port,.int .i64 m_.tag,.int .i64 m_.out,.int .i64 m_.back,.int .i64 m_.first],.cells true 4 [.int .i64 0,.nils,.nils,.int .i64 0],.cells false (s_5.2*23) (vecC zai s_5.1),.cells false (s_7.2*23) (vecC zai s_7.1),.cells true 3 [.int .i64 c.version,.arr 7 1 0 s_9.2 s_9.2 s_9.2,zah c.steps],.cells false s_9.2 (s_9.1.map zag)]) ?_ ?_
       .skip;obtain ⟨g52,H1⟩:=isg H1;rcases isp H1 with ⟨c53,H1⟩|⟨c53,H1⟩;rotate_left
        .skip;refine rg [] [] [.cells true 3 [zau n.nodes,zav n.links,zaw n.edges],.cells true 3 [.int .i64 c.version,zak c.tables,zah c.steps],.cells true 6 [.int .i64 m_.node,.int .i64 m_.port,.int .i64 m_.tag,.int .i64 m_.out,.int .i64 m_.back,.int .i64 m_.first],.cells true 4 [.int .i64 0,.nils,.nils,.int .i64 0],.cells false (s_5.2*23) (vecC zai s_5.1),.cells false (s_7.2*23) (vecC zai s_7.1),.cells true 3 [.int .i64 c.version,.arr 7 1 0 c.tables.length c.tables.length c.tables.length,zah c.steps],.cells false c.tables.length (c.tables.map zag)] (fun h=>h 5=.ptr 2 0 6/\h 6=.ptr 3 0 4/\h 7=.int .i64 ((gx n.links m_.out).to)/\h 15=.arr 4 23 0 s_5.2 s_5.2 (s_5.2*23)/\h 17=.arr 5 23 0 s_7.2 s_7.2 (s_7.2*23)/\h 22=.ptr 6 0 3) (f3 hh c10 (f3 c15 c22 (f3 c27 c51 (f3 (zx3 c.tables) (zx5 c.tables) (f2 (el27 ax) (sr27 ax)))))) trivial fun h hh=>?_;cases H1;exact ce hh ⟨kq hh,rfl⟩
        exact absurd c53 (by omega)
       clear hh h;rintro h bs ⟨hh,rfl⟩;obtain ⟨g54,H⟩:=isg H;apply dv;refine lw 15 (b:=4) (e:=23) (off:=0) (len:=s_5.2) (cap:=s_5.2) (M:=(s_5.2*23)) (s_5.1.map zai) (kq hh) (by rfl) (by omega) (by omega) (by rw [fl];exact zgd (e:=23) (fun x=>zbc x) g54) (fun t ht=>by obtain ⟨x,_,rfl⟩:=ic.1 ht;first|rfl|exact zg2 _|exact ze3 _|exact zca _|exact zbc _ | (rw [ed];rfl)) (by rw [ed]<;>exact g54) (by omega) ?_;rw [zgb _ _ _ (by simp only [lzA]<;>omega)];simp only [scA];refine gk [5,6,7,15,17,22] hh fun h hh=>?_;obtain ⟨bq,e55,H⟩:=zad H;obtain ⟨g56,H⟩:=isg H;obtain ⟨g57,H⟩:=isg H;refine dk 6 [6,7,17,22] [zag bq] [] [] (f3 hh c10 (f3 c15 c22 (f3 c27 c51 (f2 ((show spl (s_9.1.map zag) m_.node.toNat [T.lst 23 (bq.map zai)]=_ from zu4 (v:=bq) g57)) (zkb ax))))) ?_ trivial ?_
       .exact ⟨f6 (zmx ax hx k s_5.1 bq e55 ) (by first|rfl|simp only [c10,c15,c22,c27,c51]),trivial⟩
       clear hh h;intro h hh;obtain ⟨g58,H⟩:=isg H;apply dv;refine lw 17 (b:=5) (e:=23) (off:=0) (len:=s_7.2) (cap:=s_7.2) (M:=(s_7.2*23)) (s_7.1.map zai) (kq hh) (by rfl) (by omega) (by omega) (by rw [fl];exact zgd (e:=23) (fun x=>zbc x) g58) (fun t ht=>by obtain ⟨x,_,rfl⟩:=ic.1 ht;first|rfl|exact zg2 _|exact ze3 _|exact zca _|exact zbc _ | (rw [ed];rfl)) (by rw [ed]<;>exact g58) (by omega) ?_;rw [zgb _ _ _ (by simp only [lzA]<;>omega)];simp only [scA];refine gk [6,7,17,22] hh fun h hh=>?_;obtain ⟨bz,e59,H⟩:=zad H;obtain ⟨g60,H⟩:=isg H;obtain ⟨g61,H⟩:=isg H;refine dk 5 [6,22] [zag bz] [] [] (f3 hh c10 (f3 c15 c22 (f3 c27 c51 ((show spl ((s_9.1.set m_.node.toNat bq).map zag) ((gx n.links m_.out).to).toNat [T.lst 23 (bz.map zai)]=_ from zu4 (v:=bz) g61))))) ?_ trivial ?_
       .exact ⟨f6 (zmx ax hx k s_7.1 bz e59 ) (by first|rfl|simp only [c10,c15,c22,c27,c51]),trivial⟩
       clear hh h;intro h hh;obtain ⟨g62,H⟩:=isg H;apply dv;refine fz (e:=1) (len:=s_9.2) (M:=s_9.2) (l:=(((s_9.1.set m_.node.toNat bq).set ((gx n.links m_.out).to).toNat bz).map zag)) 6 7 1 (((s_9.1.set m_.node.toNat bq).set ((gx n.links m_.out).to).toNat bz).map zag) (by rw [fl,qo,zfc (fun _=>rfl),fx (by rw [ed];omega)]) (fun t ht=>by obtain ⟨x,_,rfl⟩:=ic.1 ht;first|rfl|exact zg2 _|exact ze3 _|exact zca _|exact zbc _ | (rw [ed];rfl)) (by rw [ed]<;>exact g62) ?_;refine rk [6] [] (f3 hh c10 (f3 c15 c22 (f3 c27 c51 (f3 (bt56 ax) (yrq ax) (ti56 ax))))) fun h hh=>?_;cases H;exact rtc (f2 hh (ti56 ax))
      refine ct (f2 hh c51) ?_;apply dv;refine rk [6] [] (f3 hh c10 (f3 c15 c22 (f3 c27 c51 (f3 (bt56 ax) (zy6 ax) (ti56 ax))))) fun h hh=>?_;refine nz 3 1 1 ?_;refine nz 3 2 6 ?_;cases H;exact rtc (f2 hh (ti56 ax))
     refine ct (f2 hh c27) ?_;apply dv;refine rk [6] [] (f3 hh c10 (f3 c15 c22 (f3 c27 (bt56 ax) (f2 (zy6 ax) (ti56 ax))))) fun h hh=>?_;refine nz 3 1 1 ?_;refine nz 3 2 6 ?_;cases H;exact rtc (f2 hh (ti56 ax))
    refine ct (f2 hh c22) ?_;apply dv;refine rk [6] [] (f3 hh c10 (f3 c15 c22 (f3 (bt56 ax) (zy6 ax) (ti56 ax)))) fun h hh=>?_;refine nz 3 1 1 ?_;refine nz 3 2 6 ?_;cases H;exact rtc (f2 hh (ti56 ax))
   refine ct (f2 hh (zAa c19)) ?_;apply dv;refine rk [6] [] (f3 hh c10 (f3 c15 (bt56 ax) (f2 (zy6 ax) (ti56 ax)))) fun h hh=>?_;refine nz 3 1 1 ?_;refine nz 3 2 6 ?_;cases H;exact rtc (f2 hh (ti56 ax))
  refine ct (f2 hh c15) ?_;apply dv;refine rk [6] [] (f3 hh c10 (f3 c15 (bt56 ax) (f2 (zy6 ax) (ti56 ax)))) fun h hh=>?_;refine nz 3 1 1 ?_;refine nz 3 2 6 ?_;cases H;exact rtc (f2 hh (ti56 ax))
 refine ct (f2 hh c10) ?_;apply dv;refine rk [6] [] (f3 hh c10 (f3 (bt56 ax) (zy6 ax) (ti56 ax))) fun h hh=>?_;refine nz 3 1 1 ?_;refine nz 3 2 6 ?_;cases H;exact rtc (f2 hh (ti56 ax))
theorem z2g (k:Nat) (r:Rule):zkj k r=some (decide (r.step=-1/\r.outs.length=0))/\zlh k r=some (decide (r.step=-1/\r.outs.length=0)):=by
  have:∀ x:Option Bool,(x=if r.step=-1 then some (decide ((r.outs.length:Int)=0)) else some false)->x=some (decide (r.step=-1/\r.outs.length=0)):=by
    rintro x rfl;by_cases c:r.step=-1
    . rw [zAc c];congr 1;rw [decide_eq_decide];omega
    . rw [zAd c];congr 1;exact (zAb fun h=>c h.1).symm
  exact ⟨this _ rfl,this _ rfl⟩
theorem yhc {α:Type} {q:α->Bool} {l:List α} {j:Nat} (h:j<l.length) (hq:q l[j]=true) (hn:∀ i (hi:i<j),q (l[i]'(by omega))=false):idxB q l=(j:Int):=by
  unfold idxB;have:l.findIdx? q=some j:=List.findIdx?_eq_some_iff_getElem.2 ⟨h,hq,fun i hi=>by rw [hn i hi];simp⟩;rw [this]
theorem z7t {α:Type} {L:Nat->Int->Option (Int ⊕ Unit)} (l:List α) (q:α->Bool) (hn:l.length<big) (hs:∀ m (j:Nat) (h:j<l.length),L (m+1) (j:Int)=if q l[j]=true then some (.inl (j:Int)) else L m (dx.wrap ((j:Int)+1)))
    (he:∀ m,L (m+1) (l.length:Int)=some (.inr ())) {k:Nat} (hk:l.length<k):L k 0=some (if l.any q=true then .inl (idxB q l) else .inr ()):=by
  have key:∀ (m j:Nat),j<=l.length->l.length - j<m->(∀ i (hi:i<j) (h:i<l.length),q l[i]=false)->L m (j:Int)=some (if l.any q=true then .inl (idxB q l) else .inr ()):=by
    intro m
    induction m with
    |zero=>intro j h1 h2;omega
    |succ m ih =>
      intro j h1 h2 h3;rcases jl j l.length with h|h
      . rw [hs m j h]
        cases hq:q l[j] with
        |true =>
          have ha:l.any q=true:=ns.2 ⟨_,fi h,hq⟩;rw [zAc rfl,zAc ha,yhc h hq fun i hi=>h3 i hi (by omega)]
        |false =>
          rw [zAd (by simp),zc7 j (by simp only [big] at hn;omega)];refine ih (j+1) (by omega) (by omega) fun i hi hil=>?_;rcases jl i j with w|w
          . exact h3 i w hil
          . obtain rfl:i=j:=by omega
            exact hq
      . obtain rfl:j=l.length:=by omega
        rw [he,zAd];intro ha;obtain ⟨x,hx,hxq⟩:=ns.1 ha;obtain ⟨i,hi,rfl⟩:=ku hx;rw [h3 i hi hi] at hxq;cases hxq
  exact key k 0 (ft _) (by omega) fun i hi=>by omega
def zf3 (r:Rule):Bool:=decide (r.step=-1/\r.outs.length=0)
def simB (a b:Rule):Bool:=decide (a.step=b.step/\a.outs=b.outs)
def zkh (acc:List Rule) (r:Rule):Bool:=acc.any fun x=>simB x r
def zi2 (acc:List Rule) (r:Rule):Int:=if zkh acc r=true then idxB (fun x=>simB x r) acc else (acc.length:Int)
def zf0:List Rule->List Rule->List Rule
  |acc,[]=>acc
  |acc,r :: l=>if zf3 r=true\/zkh acc r=true then zf0 acc l else zf0 (acc++[r]) l
def zvz:List Rule->List Rule->List Int
  |_,[]=>[]
  |acc,r :: l=>(if zf3 r=true then -1 else zi2 acc r) :: (if zf3 r=true\/zkh acc r=true then zvz acc l else zvz (acc++[r]) l)
theorem zi1:∀ (l acc:List Rule),∃ e,zf0 acc l=acc++e/\e.length<=l.length/\∀ x,x∈e->x∈l
  |[],acc=>⟨[],by rw [zf0,fo],by simp,fun x hx=>hx⟩
  |r :: l,acc=>by
    rw [zf0];split
    . obtain ⟨e,h1,h2,h3⟩:=zi1 l acc;exact ⟨e,h1,by simp;omega,fun x hx=>.tail _ (h3 x hx)⟩
    . obtain ⟨e,h1,h2,h3⟩:=zi1 l (acc++[r]);refine ⟨r :: e,by rw [h1,ew];rfl,by simp;omega,fun x hx=>?_⟩
      cases hx with
      |head=>exact .head _
      |tail _ hx=>exact .tail _ (h3 x hx)
theorem yks {α:Type} {q:α->Bool} {a b:List α} (h:a.any q=true):idxB q (a++b)=idxB q a:=by
  unfold idxB;rw [List.findIdx?_append]
  cases hf:a.findIdx? q with
  |some i=>rfl
  |none =>
    have:=List.findIdx?_eq_none_iff.1 hf;obtain ⟨x,hx,hq⟩:=ns.1 h;rw [this x hx] at hq;cases hq
theorem zwg {a b:List Rule} {r:Rule} (h:zkh a r=true):zkh (a++b) r=true:=by
  unfold zkh at h ⊢;rw [List.any_append,h,ig]
theorem zu5 (r:Rule):simB r r=true:=zAa ⟨rfl,rfl⟩
theorem ykr {a b:List Rule} {r:Rule} (h:zkh a r=false):idxB (fun x=>simB x r) (a++r :: b)=(a.length:Int):=by
  refine yhc (by simp) ?_ fun i hi=>?_
  . rw [List.getElem_append_right (Nat.le_refl _)];simp only [Nat.sub_self,List.getElem_cons_zero];exact zu5 r
  . rw [List.getElem_append_left hi]
    cases hs:simB a[i] r with
    |false=>rfl
    |true =>
      have:zkh a r=true:=ns.2 ⟨_,fi hi,hs⟩;rw [h] at this;cases this
theorem zqx:∀ (l acc:List Rule),zvz acc l=l.map fun r=>if zf3 r=true then -1 else zi2 (zf0 acc l) r
  |[],acc=>rfl
  |r :: l,acc=>by
    by_cases hd:zf3 r=true
    . have hc:zf0 acc (r :: l)=zf0 acc l:=by rw [zf0,zAc (Or.inl hd)]
      rw [zvz,hc,gj,zAc hd,zAc (Or.inl hd),zqx l acc,zAc hd]
    . by_cases hi:zkh acc r=true
      . have hc:zf0 acc (r :: l)=zf0 acc l:=by rw [zf0,zAc (Or.inr hi)]
        rw [zvz,hc,gj,zAd hd,zAc (Or.inr hi),zqx l acc,zAd hd];congr 1;obtain ⟨e,h1,_,_⟩:=zi1 l acc;unfold zi2;rw [zAc hi,h1,zAc (zwg hi),yks hi]
      . have hn:¬ (zf3 r=true\/zkh acc r=true):=fun h=>h.elim hd hi;have hc:zf0 acc (r :: l)=zf0 (acc++[r]) l:=by rw [zf0,zAd hn]
        rw [zvz,hc,gj,zAd hd,zAd hn,zqx l (acc++[r]),zAd hd];congr 1;obtain ⟨e,h1,_,_⟩:=zi1 l (acc++[r]);unfold zi2;rw [zAd hi,h1,ew,nf,zAc,ykr (by simpa using hi)];unfold zkh;rw [List.any_append,n6,zu5,ig,Bool.or_true]
def zbn (t:List Rule) (B:List Int):List Rule:=B.map fun i=>gx t i
theorem zvi {t:List Rule} {B:List Int} {j:Nat} (h:j<B.length):(zbn t B).drop j=gx t B[j] :: (zbn t B).drop (j+1):=by
  unfold zbn;rw [<- List.map_drop,jd h,gj,List.map_drop]
theorem zo5 {k:Nat} (l:List Rule) (f:Rule->Option Bool) (q:Rule->Bool) (hf:∀ x,x∈l->f x=some (q x)) (hl:l.length<big) (hk:l.length<k):zcv k l f=some (idxB q l):=by
  unfold zcv;exact zl0 l q hl (fun m j h=>by rw [zbe,zAc (zae h),zAc ⟨by omega,zae h⟩,zbz h,hf _ (fi h),dw]) (fun m=>by rw [zbe,zAd (by omega)]) hk
theorem z5e {k:Nat} {y r:Rule} (hy:zia y) (hk:big<=k):zf6 k y ⟨r.prio,r.mat,r.step,r.outs⟩=some (simB y r):=by
  unfold zf6;rw [zo8 _ _ (show zia ⟨r.prio,r.mat,y.step,y.outs⟩ from hy) hk,dw];congr 1;unfold simB;rw [decide_eq_decide];constructor
  . intro h;have h3:=congrArg Rule.step h;have h4:=congrArg Rule.outs h;exact ⟨h3,h4⟩
  . rintro ⟨h1,h2⟩;rw [h1,h2]
theorem zq3 {α:Type} {q:α->Bool} {l:List α}:idxB q l<0↔¬ l.any q=true:=by
  rw [<- zt9];simp
theorem z72 {k:Nat} {t:List Rule} {b:zfe} (ht:z4e t) (hB:∀ i,i∈b.rules->0<=i/\i<(t.length:Int)) (hl:b.rules.length<=100000) (hk:big<=k):zit k t b=some (zf0 [] (zbn t b.rules),zvz [] (zbn t b.rules)):=by
  have key:∀ (m j:Nat) (acc:List Rule) (o:List Int),j<=b.rules.length->b.rules.length - j<m->acc.length<=j->o.length<=j->(∀ x,x∈acc->zia x)->zcg k t b m (j:Int) acc acc.length o o.length=some (zf0 acc ((zbn t b.rules).drop j),(zf0 acc ((zbn t b.rules).drop j)).length,o++zvz acc ((zbn t b.rules).drop j),(o++zvz acc ((zbn t b.rules).drop j)).length):=by
    intro m
    induction m with
    |zero=>intro j acc o h1 h2;omega
    |succ m ih =>
      intro j acc o h1 h2 h3 h4 h5;rw [zcg];rcases jl j b.rules.length with h|h
      . obtain ⟨q1,q2⟩:=hB _ (fi h)
        have hmem:gx t b.rules[j]∈t:=by
          obtain ⟨i,hi⟩:∃ i:Nat,b.rules[j]=(i:Int):=⟨b.rules[j].toNat,by omega⟩;rw [hi,zbz (by omega)];exact fi _
        have hx:=ht.2 _ hmem;rw [zAc (zae h),zAc ⟨by omega,zae h⟩,zbz h,zAc ⟨q1,q2⟩,(z2g k _).1,dw,zvi h,zf0,zvz,zc7 j (by omega)];generalize hr:gx t b.rules[j]=r at hx;have hdd:decide (r.step=-1/\r.outs.length=0)=zf3 r:=rfl;have i1:=ih (j+1) acc (o++[-1]) (by omega) (by omega) (by omega) (by simp;omega) h5;have i2:=ih (j+1) acc (o++[zi2 acc r]) (by omega) (by omega) (by omega) (by simp;omega) h5
        have i3:=ih (j+1) (acc++[r]) (o++[zi2 acc r]) (by omega) (by omega) (by simp;omega) (by simp;omega) (fun x hx2=>by
          rcases List.mem_append.1 hx2 with w|w
          . exact h5 x w
          . rw [lc] at w;rw [w];exact hx)
        simp only [ep,iw,ew,nf] at i1 i2 i3;show (if decide (r.step=-1/\r.outs.length=0)=true then _ else _)=_;rw [hdd];by_cases hd:zf3 r=true
        . rw [zAc hd,zAc (by omega),zAc (.inl hd),zAc hd,zAc (.inl hd),i1];simp only [ep]
        . rw [zAd hd,zAd hd,zAc rfl,zo5 acc _ (fun y=>simB y r) (fun y hy=>z5e (h5 y hy) hk) (by simp only [big];omega) (by simp only [big] at hk;omega),dw];by_cases hi:zkh acc r=true
          . have e:zi2 acc r=idxB (fun y=>simB y r) acc:=zAc hi;rw [zAd (fun h=>zq3.1 h hi),zAc (by omega),zAc (.inr hi),zAc (.inr hi),<- e,i2];simp only [ep]
          . have e:zi2 acc r=(acc.length:Int):=zAd hi;have hn:¬ (zf3 r=true\/zkh acc r=true):=fun h=>h.elim hd hi;rw [zAc (zq3.2 hi),zAc (by omega),zAc (by omega),zAd hn,zAd hn];rw [e] at i3 ⊢;rw [i3];simp only [ep]
      . obtain rfl:j=b.rules.length:=by omega
        have e:(zbn t b.rules).drop b.rules.length=[]:=gu (by unfold zbn;simp);rw [zAd (by omega),e,zf0,zvz,fo]
  unfold zit;have:=key k 0 [] [] (ft _) (by simp only [big] at hk;omega) (by simp) (by simp) (fun x hx=>by cases hx);rw [fl,eu] at this;have e:(zcg k t b k 0 [] 0 [] 0:Option (List Rule×Nat×List Int×Nat))=_:=this;rw [e,dw];simp only [if_true]
theorem yfl {k:Nat} (a b:Rule) (ha:zia a) (hk:big<=k):zld k a b=some (simB a b):=by
  unfold zld;rw [zs7 _ _ (show zia ⟨0,⟨zA 10,zA 10⟩,a.step,a.outs⟩ from ha) hk,dw];congr 1;unfold simB;rw [decide_eq_decide];constructor
  . intro h;injection h with h1 h2 h3 h4;exact ⟨h3,h4⟩
  . rintro ⟨h1,h2⟩;rw [h1,h2]
theorem z3y {k:Nat} (l:List Rule) (r:Rule) (hl:∀ x,x∈l->zia x) (hn:l.length<big) (hk:big<=k):zhp k l r=some (zi2 l r):=by
  unfold zhp
  have:=z7t (L:=zej k l r) l (fun x=>simB x r) hn (fun m j h=>by
    rw [zej,zAc (zae h),zAc ⟨by omega,zae h⟩,zbz h,yfl _ _ (hl _ (fi h)) hk,dw]) (fun m=>by rw [zej,zAd (by omega)]) (fb hn hk)
  rw [this,dw];unfold zi2;show il _ _ (if zkh l r=true then _ else _)=_;split<;>rfl
theorem z5x {acc:List Rule} {r:Rule}:zi2 acc r=(acc.length:Int)↔¬ zkh acc r=true:=by
  unfold zi2;by_cases h:zkh acc r=true
  . rw [zAc h];refine ⟨fun e=>?_,fun e=>absurd h e⟩;exfalso;unfold idxB at e
    cases hf:acc.findIdx? fun x=>simB x r with
    |none=>rw [hf] at e;simp only at e;omega
    |some i =>
      rw [hf] at e;obtain ⟨hi,_⟩:=List.findIdx?_eq_some_iff_getElem.1 hf;simp only at e;omega
  . rw [zAd h];exact ⟨fun _=>h,fun _=>rfl⟩
theorem z7d {k:Nat} {t:List Rule} {B:List Int} (ht:z4e t) (hB:∀ i,i∈B->0<=i/\i<(t.length:Int)) (hl:B.length<=100000) (hk:big<=k):zis k t B=some (zf0 [] (zbn t B)):=by
  have key:∀ (m j:Nat) (acc:List Rule),j<=B.length->B.length - j<m->acc.length<=j->(∀ x,x∈acc->zia x)->zcf k t B m (j:Int) acc acc.length=some (zf0 acc ((zbn t B).drop j),(zf0 acc ((zbn t B).drop j)).length):=by
    intro m
    induction m with
    |zero=>intro j acc h1 h2;omega
    |succ m ih =>
      intro j acc h1 h2 h3 h5;rw [zcf];rcases jl j B.length with h|h
      . obtain ⟨q1,q2⟩:=hB _ (fi h)
        have hmem:gx t B[j]∈t:=by
          obtain ⟨i,hi⟩:∃ i:Nat,B[j]=(i:Int):=⟨B[j].toNat,by omega⟩;rw [hi,zbz (by omega)];exact fi _
        have hx:=ht.2 _ hmem;rw [zAc (zae h),zAc ⟨by omega,zae h⟩,zbz h,zAc ⟨q1,q2⟩,(z2g k _).2,dw,zvi h,zf0,zc7 j (by omega)];generalize hr:gx t B[j]=r at hx;have hdd:decide (r.step=-1/\r.outs.length=0)=zf3 r:=rfl;have i1:=ih (j+1) acc (by omega) (by omega) (by omega) h5
        have i3:=ih (j+1) (acc++[r]) (by omega) (by omega) (by simp;omega) (fun x hx2=>by
          rcases List.mem_append.1 hx2 with w|w
          . exact h5 x w
          . rw [lc] at w;rw [w];exact hx)
        simp only [ep,iw] at i3;show (if decide (r.step=-1/\r.outs.length=0)=true then _ else _)=_;rw [hdd];by_cases hd:zf3 r=true
        . rw [zAc hd,zAc (.inl hd),i1]
        . rw [zAd hd,zAc rfl];show Option.bind (zhp k acc r) _=_;rw [z3y acc r h5 (by simp only [big];omega) hk,dw];by_cases hi:zkh acc r=true
          . rw [zAd (fun e=>z5x.1 e hi),zAc (.inr hi),i1]
          . have hn:¬ (zf3 r=true\/zkh acc r=true):=fun h=>h.elim hd hi;rw [zAc (z5x.2 hi),zAc (by omega),zAd hn];exact i3
      . obtain rfl:j=B.length:=by omega
        have e:(zbn t B).drop B.length=[]:=gu (by unfold zbn;simp);rw [zAd (by omega),e,zf0]
  unfold zis;have:=key k 0 [] (ft _) (by simp only [big] at hk;omega) (by simp) (fun x hx=>by cases hx);rw [fl] at this;have e:(zcf k t B k 0 [] 0:Option (List Rule×Nat))=_:=this;rw [e,dw];simp only [if_true]
theorem yo6 {k:Nat} {h n:Pat} (hp:zaz h.mask=true) (hn:zaz n.mask=true) (hk:10<k):∃ x,zdz k n k 0 h.mask=some x/\zaz x=true/\∀ i,i<160->hbit x i=(hbit h.mask i || hbit n.mask i):=by
  have hfold:=z4r (L:=zdz k n) 10 (fun x i=>x.set (i:Int) (iOr .i64 (gx x.l (i:Int)) (gx n.mask.l (i:Int))))
    (fun j x=>∀ i:Nat,i<10->gx x.l (i:Int)=if i<j then ((hw h.mask i ||| hw n.mask i:Nat):Int) else (hw h.mask i:Int)) (by decide)
    (fun fu j x hj hI=>by
      obtain ⟨b1,b2⟩:=zd6 hn hj;obtain ⟨c1,c2⟩:=zd6 hp hj;refine ⟨by rw [zdz,zAc (lt10 hj),zAc ⟨by omega,lt10 hj⟩],fun i hi=>?_⟩;by_cases hij:j=i
      . subst hij;have h0:=hI j hj;rw [zAd (Nat.lt_irrefl j)] at h0;rw [zih _ hi,zAc (Nat.lt_succ_self j),h0,b1,yhl (by omega) (by omega)]
      . rw [zl2 _ hi hij,hI i hi];by_cases hlt:i<j
        . rw [zAc hlt,zAc (by omega)]
        . rw [zAd hlt,zAd (by omega)]) (fun fu x _=>by rw [zdz];exact zAd (by decide)) hk (s:=h.mask) (fun i hi=>by rw [zAd (Nat.not_lt_zero i)];exact (zd6 hp hi).1)
  obtain ⟨h1,h2⟩:=hfold;refine ⟨_,h1,?_⟩;generalize (List.range 10).foldl _ h.mask=x at h2 ⊢;have hx:∀ i:Nat,i<10->gx x.l (i:Int)=((hw h.mask i ||| hw n.mask i:Nat):Int):=fun i hi=>by rw [h2 i hi,zAc hi]
  have hlt:∀ i,i<10->(hw h.mask i ||| hw n.mask i)<65536:=fun i hi=>Nat.or_lt_two_pow (n:=16) (zd6 hp hi).2 (zd6 hn hi).2;refine ⟨zkn fun j hj=>⟨_,hx j hj,hlt j hj⟩,fun i hi=>?_⟩;have hi10:i / 16<10:=by omega
  have e1:hw x (i / 16)=hw h.mask (i / 16) ||| hw n.mask (i / 16):=by
    unfold hw;rw [hx (i / 16) hi10];rfl
  unfold hbit;rw [e1,Nat.testBit_or]
theorem yd5 {k:Nat} {m n:Pat} (hm:zas m=true) (hn:zas n=true) (hk:160<k):∃ x,zif k m n=some x/\zll k m n=some x/\zas x=true:=by
  obtain ⟨mm,mb,mw⟩:=zb2.1 hm;obtain ⟨nm,nb,nw⟩:=zb2.1 hn;have hnn:zas ⟨n.mask,n.mask⟩=true:=zb2.2 ⟨nm,nm,fun i _ h=>h⟩;obtain ⟨a,a1,a2⟩:=ydc (k:=k) hn mb (by omega);obtain ⟨b,b1,b2⟩:=z33 (k:=k) hn mb hk;obtain ⟨c,c1,c2,c3⟩:=yo6 (k:=k) (h:=m) (n:=n) mm nm (by omega);obtain ⟨d,d1,d2⟩:=z33 (k:=k) hnn mm hk;have e1:b=a:=b2.uniq a2
  have e2:d=c:=d2.uniq ⟨c2,fun i hi=>by
    rw [c3 i hi];show _=if hbit n.mask i=true then hbit n.mask i else hbit m.mask i
    cases hbit n.mask i<;>simp⟩
  subst e1;subst e2;refine ⟨⟨d,b⟩,?_,?_,zb2.2 ⟨c2,a2.1,fun i hi hb=>?_⟩⟩
  . unfold zif;rw [a1,dw,c1];rfl
  . unfold zll;rw [b1,dw,d1];rfl
  . show hbit d i=true;rw [c3 i hi];have h2:hbit b i=true:=hb;rw [a2.2 i hi] at h2;split at h2
    . next h=>rw [h,Bool.or_true]
    . rw [mw i hi h2,ig]
/-! tables without some rules -/
def woL (B:List Int):Nat->List Rule->List Rule
  |_,[]=>[]
  |i,r :: l=>if B.any (fun x=>decide (x=(i:Int)))=true then woL B (i+1) l else r :: woL B (i+1) l
theorem ydu (B:List Int):∀ (l:List Rule) (i:Nat),(woL B i l).length<=l.length
  |[],_=>Nat.le_refl _
  |r :: l,i=>by
    have:=ydu B l (i+1);rw [woL];split<;>simp<;>omega
theorem z6q (B:List Int):∀ (l:List Rule) (i:Nat) (x:Rule),x∈woL B i l->x∈l
  |[],_,x,h=>h
  |r :: l,i,x,h=>by
    rw [woL] at h;split at h
    . exact .tail _ (z6q B l (i+1) x h)
    . cases h with
      |head=>exact .head _
      |tail _ h=>exact .tail _ (z6q B l (i+1) x h)
theorem z6o {k:Nat} {l:List Int} {v:Int} (hl:l.length<big) (hk:big<=k):zdu k l v=some (l.any fun x=>decide (x=v)):=by
  unfold zdu zgq
  rw [zl0 l (fun x=>decide (x=v)) hl (fun m j h=>by
    rw [zcc,zAc (zae h),zAc ⟨by omega,zae h⟩,zbz h];by_cases c:v=l[j]
    . rw [zAc c,zAc (zAa c.symm)]
    . rw [zAd c,zAd (by rw [decide_eq_true_eq];exact fun e=>c e.symm)]) (fun m=>by rw [zcc,zAd (by omega)]) (fb hl hk),dw,zt9]
theorem z0y {k:Nat} {t:List Rule} {B:List Int} (ht:t.length<=4000) (hB:B.length<big) (hk:big<=k):zf2 k t B=some (woL B 0 t,(woL B 0 t).length):=by
  have key:∀ (m j:Nat) (acc:List Rule),j<=t.length->t.length - j<m->acc.length<=j->zbq k t B m (j:Int) acc acc.length=some (acc++woL B j (t.drop j),(acc++woL B j (t.drop j)).length):=by
    intro m
    induction m with
    |zero=>intro j acc h1 h2;omega
    |succ m ih =>
      intro j acc h1 h2 h3;rw [zbq];rcases jl j t.length with h|h
      . rw [zAc (zae h),zAc ⟨by omega,zae h⟩,z6o hB hk,dw,jd h,woL,zc7 j (by omega),zbz h];by_cases hc:(B.any fun x=>decide (x=(j:Int)))=true
        . rw [zAc hc,zAc hc,ih (j+1) acc (by omega) (by omega) (by omega)]
        . rw [zAd hc,zAd hc,zAc (by omega)];have:=ih (j+1) (acc++[t[j]]) (by omega) (by omega) (by simp;omega);rw [ew,nf,ep,iw] at this;exact this
      . obtain rfl:j=t.length:=by omega
        rw [zAd (by omega),nu,woL,fo]
  unfold zf2;have:=key k 0 [] (ft _) (by simp only [big] at hk;omega) (ft _);rw [fl,eu] at this;have e:(zbq k t B k 0 [] 0:Option (List Rule×Nat))=_:=this;rw [e,dw]
theorem zxz {k:Nat} {B:List Int} {v:Int} (hB:B.length<big) (hk:big<=k):zb9 k B v k false 0=some (B.any fun x=>decide (x=v)):=by
  have key:∀ (m j:Nat) (g:Bool),j<=B.length->B.length - j<m->zb9 k B v m g (j:Int)=some (g || (B.drop j).any fun x=>decide (x=v)):=by
    intro m
    induction m with
    |zero=>intro j g h1 h2;omega
    |succ m ih =>
      intro j g h1 h2;rw [zb9];rcases jl j B.length with h|h
      . rw [zAc (zae h),zc7 j (by simp only [big] at hB;omega),jd h,n6]
        cases g with
        |true=>rw [zAc rfl,ih (j+1) true (by omega) (by omega)];simp
        |false=>rw [zAd (by simp),zAc ⟨by omega,zae h⟩,zbz h,ih (j+1) _ (by omega) (by omega)];simp
      . obtain rfl:j=B.length:=by omega
        rw [zAd (by omega),nu];simp
  have:=key k 0 false (ft _) (by omega);rw [fl,Bool.false_or] at this;exact this
theorem z7e {k:Nat} {t:List Rule} {B:List Int} (ht:t.length<=4000) (hB:B.length<big) (hk:big<=k):zg6 k t B=some (woL B 0 t,(woL B 0 t).length):=by
  have key:∀ (m j:Nat) (acc:List Rule),j<=t.length->t.length - j<m->acc.length<=j->zcl k t B m (j:Int) acc acc.length=some (acc++woL B j (t.drop j),(acc++woL B j (t.drop j)).length):=by
    intro m
    induction m with
    |zero=>intro j acc h1 h2;omega
    |succ m ih =>
      intro j acc h1 h2 h3;rw [zcl];rcases jl j t.length with h|h
      . rw [zAc (zae h),zxz hB hk,dw,jd h,woL,zc7 j (by omega),zbz h];by_cases hc:(B.any fun x=>decide (x=(j:Int)))=true
        . rw [zAc hc,zAc hc,dw];exact ih (j+1) acc (by omega) (by omega) (by omega)
        . rw [zAd hc,zAd hc,zAc ⟨by omega,zae h⟩,zAc (by omega),dw];have:=ih (j+1) (acc++[t[j]]) (by omega) (by omega) (by simp;omega);rw [ew,nf,ep,iw] at this;exact this
      . obtain rfl:j=t.length:=by omega
        rw [zAd (by omega),nu,woL,fo]
  unfold zg6;have:=key k 0 [] (ft _) (by simp only [big] at hk;omega) (ft _);rw [fl,eu] at this;have e:(zcl k t B k 0 [] 0:Option (List Rule×Nat))=_:=this;rw [e,dw]
/-! who meets a spot -/
def ztz (t:List Rule) (s:Spot):Bool:=t.any fun r=>zk5 r.mat (spP s)
theorem yqs {α:Type} (l:List α) (q:α->Bool):l.any q=!(l.all fun x=>!q x):=by
  induction l with
  |nil=>rfl
  |cons x l ih=>rw [n6,List.all_cons,ih];cases q x<;>simp
theorem z3x {k:Nat} {t:List Rule} {s:Spot} (hr:∀ r,r∈t->zas r.mat=true) (hl:t.length<big) (hp:zcz s.port=true) (ht:zcz s.tag=true) (hk:big<=k):zho k t s.port s.tag=some (ztz t s):=by
  unfold zho
  rw [zom (L:=zei k t s.port s.tag) t true (fun r=>!zk5 r.mat (spP s)) hl (fun m j h=>by
    rw [zei,zAc (zae h),zAc ⟨by omega,zae h⟩,zbz h,zvn,dw];show Option.bind (zfj k t[j].mat (spP s)) _=_;rw [zvo (hr _ (fi h)) (zln hp ht) (by simp only [big] at hk;omega),dw]
    cases zk5 t[j].mat (spP s)<;>rfl) (fun m=>by rw [zei,zAd (by omega)]) (fb hl hk),dw]
  unfold ztz;rw [yqs];cases (t.all fun r=>!zk5 r.mat (spP s))<;>rfl
theorem z5d {k:Nat} {t:List Rule} {s:Spot} (hr:∀ r,r∈t->zas r.mat=true) (hl:t.length<big) (hp:zcz s.port=true) (ht:zcz s.tag=true) (hk:big<=k):zbl k t s=some (ztz t s):=by
  unfold zbl zdn
  rw [zl0 t (fun r=>zk5 r.mat (spP s)) hl (fun m j h=>by
    rw [za6,zAc (zae h),zAc ⟨by omega,zae h⟩,zbz h,z99 (hr _ (fi h)) hp ht hk,dw]) (fun m=>by rw [za6,zAd (by omega)]) (fb hl hk),dw,zt9]
  rfl
/-! a bunch that is looked for -/
theorem zo6 {k:Nat} (l:List zfe) (f:zfe->Option Bool) (q:zfe->Bool) (hf:∀ x,x∈l->f x=some (q x)) (hl:l.length<big) (hk:l.length<k):zcw k l f=some (idxB q l):=by
  unfold zcw;exact zl0 l q hl (fun m j h=>by rw [zbf,zAc (zae h),zAc ⟨by omega,zae h⟩,zbz h,hf _ (fi h),dw]) (fun m=>by rw [zbf,zAd (by omega)]) hk
theorem yh0 (k:Nat) (b:zfe) (s:Spot):zid k b s=some (decide (b.port=s.port/\b.tag=s.tag)):=by
  unfold zid;by_cases h:b.port=s.port
  . rw [zAc h];congr 1;rw [decide_eq_decide];exact ⟨fun h2=>⟨h,h2⟩,fun h2=>h2.2⟩
  . rw [zAd h];congr 1;exact (zAb fun h2=>h h2.1).symm
def bix (t:List Rule) (s:Spot):List Int:=if zq1 t s=true then [] else idxF (qs s) t 0
theorem zwh {α:Type} [Inhabited α] {q:α->Bool} {l:List α} (h:¬ idxB q l<0):idxB q l<(l.length:Int)/\gx l (idxB q l)∈l/\q (gx l (idxB q l))=true:=by
  unfold idxB at h ⊢
  cases hf:l.findIdx? q with
  |none=>rw [hf] at h;exact absurd (by decide) h
  |some i =>
    obtain ⟨h1,h2,_⟩:=List.findIdx?_eq_some_iff_getElem.1 hf;simp only;rw [zbz h1];exact ⟨by omega,fi h1,h2⟩
theorem yk3 {k:Nat} {t:List Rule} {s:Spot} (hr:∀ r,r∈t->zas r.mat=true) (hl:t.length<1000000) (hk:big<=k):zng k t s=some (if bix t s=[] then (⟨0,0,[]⟩,false) else (⟨s.port,s.tag,bix t s⟩,true)):=by
  unfold zng
  have hlb:(zxg t).length<big:=by
    refine Nat.lt_of_le_of_lt (List.length_filterMap_le _ _) ?_;have:=ycv t [];simp only [gb] at this;simp only [big];omega
  rw [z73 hr hl hk,dw,zo6 (zxg t) _ (fun b=>decide (b.port=s.port/\b.tag=s.tag)) (fun b _=>yh0 k b s) hlb (fb hlb hk),dw];generalize hq:(fun b:zfe=>decide (b.port=s.port/\b.tag=s.tag))=q;by_cases hn:idxB q (zxg t)<0
  . rw [zAc hn];have hno:=zq3.1 hn
    have hb:bix t s=[]:=by
      unfold bix
      cases hm:zq1 t s with
      |true=>rfl
      |false =>
        rw [zAd (by simp)];refine z16.2 fun r hr2=>?_
        cases hqs:qs s r with
        |false=>rfl
        |true =>
          exfalso;apply hno;unfold qs at hqs;rw [dz] at hqs;have hs:s∈zks t []:=(zon t [] s).2 (.inr ⟨r,hr2,hqs.1,zAe hqs.2⟩);refine ns.2 ⟨⟨s.port,s.tag,idxF (qs s) t 0⟩,qt.2 ⟨s,hs,?_⟩,?_⟩
          . unfold z2u;rw [hm];rfl
          . rw [<- hq];exact zAa ⟨rfl,rfl⟩
    rw [zAc hb]
  . obtain ⟨h1,h2,h3⟩:=zwh hn;rw [zAd hn,zAc ⟨by omega,h1⟩];generalize gx (zxg t) (idxB q (zxg t))=b at h2 h3;obtain ⟨s',hs',hb'⟩:=qt.1 h2;unfold z2u at hb'
    cases hm:zq1 t s' with
    |true=>rw [hm] at hb';cases hb'
    |false =>
      rw [hm,zAd (by simp)] at hb';cases hb';rw [<- hq] at h3;obtain ⟨e1,e2⟩:=zAe h3;have:s'=s:=by cases s';cases s;simp only at e1 e2;rw [e1,e2]
      subst this;have hb:bix t s'=idxF (qs s') t 0:=by unfold bix;rw [hm];rfl
      rw [hb,zAd];rcases (zon t [] s').1 hs' with h|⟨r,hr2,g1,g2⟩
      . cases h
      . intro he;have:=z16.1 he r hr2;unfold qs at this;rw [g1,zAa g2] at this;cases this
theorem yhb (q:Rule->Bool):∀ (l:List Rule) (i x:Int),x∈idxF q l i->x<i+(l.length:Int)
  |[],i,x,h=>by cases h
  |r :: l,i,x,h=>by
    rw [idxF] at h
    have key:x∈idxF q l (i+1)->x<i+((r :: l).length:Int):=fun h=>by
      have:=yhb q l (i+1) x h;rw [et];omega
    split at h
    . rcases List.mem_cons.1 h with rfl|h
      . rw [et];omega
      . exact key h
    . exact key h
theorem z8n {t:List Rule} {s:Spot} {i:Int} (h:i∈bix t s):0<=i/\i<(t.length:Int):=by
  unfold bix at h;split at h
  . cases h
  . have:=yhb _ _ _ _ h;have:=z7v _ _ _ _ h;omega
theorem yqn (t:List Rule) (s:Spot):(bix t s).length<=t.length:=by
  unfold bix;split
  . simp
  . exact z17 _ _ _
theorem zrf {α β:Type} {c:α->Option β}:∀ {l:List α},l.findSome? c=none->∀ x,x∈l->c x=none
  |[],_,x,hx=>by cases hx
  |y :: l,h,x,hx=>by
    rw [List.findSome?_cons] at h
    cases hc:c y with
    |some b=>rw [hc] at h;cases h
    |none =>
      rw [hc] at h
      cases hx with
      |head=>exact hc
      |tail _ hx=>exact zrf h x hx
theorem z5y {n:Net} {steps:Int} {t:List Rule} (h:(zm4 n steps t).2=0):t.length<=4000/\∀ j,j<t.length->znw n steps t j=true:=by
  unfold zm4 at h;by_cases c1:steps<0\/1000<steps
  . rw [zAc c1] at h;cases h
  . rw [zAd c1] at h;by_cases c2:4000<t.length
    . rw [zAc c2] at h;cases h
    . rw [zAd c2] at h;refine ⟨by omega,fun j hj=>?_⟩
      cases hf:(List.range t.length).findSome? (fun j=>if znw n steps t j=true then none else some ((j:Int),(1:Int))) with
      |some r =>
        rw [hf] at h;obtain ⟨x,_,hx⟩:=List.exists_of_findSome?_eq_some hf;simp only at h;split at hx
        . cases hx
        . cases hx;cases h
      |none =>
        have:=zrf hf j (List.mem_range.2 hj)
        cases hg:znw n steps t j with
        |true=>rfl
        |false=>rw [hg] at this;simp at this
theorem yhx {n:Net} {steps:Int} {t:List Rule} (h:(zm4 n steps t).2=0):∀ r,r∈t->zj9 n steps r=true:=by
  intro r hr;obtain ⟨j,hj,rfl⟩:=ku hr;have:=(z5y h).2 j hj;unfold znw at this;rw [List.getD_eq_getElem?_getD,List.getElem?_eq_getElem hj] at this;simp only [dz] at this;exact this.1
theorem z9p {n:Net} {steps:Int} {r:Rule} (h:zj9 n steps r=true):zas r.mat=true:=by
  unfold zj9 at h;simp only [dz] at h;exact h.2.1
end Go.Proofs.YteifcnjpjjaikaaGreat
