/- Part 10 of the proof of FitKeepsPackets (several texts in one; no further condition). -/
import Derived.Test.YteifcnjpjjaikaaGreatZI
import Derived.Test.YteifcnjpjjaikaaGreatZF
import Derived.Test.YteifcnjpjjaikaaGreatZH
set_option linter.unusedSimpArgs false
set_option linter.unusedVariables false
set_option linter.unusedSectionVars false
namespace Go.Proofs.YteifcnjpjjaikaaGreat
set_option maxHeartbeats 8000000
open _root_.And renaming intro->dx
open _root_.Bool renaming and_eq_true->d8,and_self->el,and_true->lc,false_eq_true->lj,false_or->ib,not_eq_true'->ny,not_false->gn,not_true->gp,or_true->iq,true_or->im
open Go.Proofs.YteifcnjpjjaikaaGreat.Call renaming fresh->sn
open _root_.Int renaming toNat_natCast->pf
open Go.IntKind renaming i64->d9
open _root_.List renaming all_cons->ig,all_eq_true->fd,all_nil->od,any_cons->ot,any_eq_true->ky,append_assoc->ey,append_nil->fp,cons_append->fq,drop_eq_getElem_cons->i8,drop_length->oh,drop_of_length_le->gu,drop_succ_cons->jp,drop_zero->fl,flatten_cons->gh,flatten_nil->fg,getD_eq_getElem?_getD->eh,getElem?_append_right->gm,getElem?_cons_succ->jo,getElem?_cons_zero->fx,getElem?_drop->js,getElem?_eq_getElem->ef,getElem_map->l6,getElem_mem->ft,getElem_of_mem->lq,length_append->eu,length_cons->ez,length_map->ek,length_nil->gd,length_set->lr,length_singleton->gz,length_take->gi,map_cons->ge,mem_append->ov,mem_cons->ic,mem_filterMap->rp,mem_map->ip,mem_range->jf,mem_singleton->jv,nil_append->fb,range->i7,range'_succ->ne,range_eq_range'->ma,replicate->ew,set_append_right->re,set_cons_succ->kb,set_cons_zero->ku,singleton_append->lu,take_length->pl,take_of_length_le->gc
open _root_.Nat renaming lt_of_lt_of_le->fh,lt_or_ge->ko,reduceAdd->ed,reduceEqDiff->ee,reduceLT->fm,reduceLeDiff->jr,reduceMul->fy,reduceSub->gw,sub_self->ln,zero_add->f6,zero_le->gb
open _root_.Option renaming bind_some->dz
open Go.Proofs.YteifcnjpjjaikaaGreat.Pure renaming clr->gq
open _root_.Sum renaming elim->i9
open Go.Proofs.YteifcnjpjjaikaaGreat.T renaming int->d7,ren->py,renL->nu
open Go.Proofs.YteifcnjpjjaikaaGreat.TS renaming add_ne->o9,add_same->qj,set_ne->gy,set_same->iu
open Go.Proofs.YteifcnjpjjaikaaGreat.TW renaming block->fo,freeze->nf,loopT->iw,seq->d6
open Go.Proofs.YteifcnjpjjaikaaGreat.zap renaming call->ff
set_option maxRecDepth 100000
open Go Go.RowKit
def zcn (k:Nat) (k_:Int) (top:Int):Option Bool:=(if 0<=k_ then some (decide (k_<top)) else some false)
theorem zbe (ax:Axs) (hx:NoAx ax) (k:Nat) (k_:Int) (top:Int) (v:Bool) (H:zcn k k_ top=some v):Pure Tryz.prog (EE ax) [] 57 [.int .i64 k_,.int .i64 top] (.bool v):=by
 rw [zcn] at H;refine en [.tmp 4] 12 [0,1] (hx.no _ (by decide)) (fn57 ax) ?_;intro h hh;apply d6;refine rk [0,1] [] hh fun h hh=>?_;rcases isp H with ⟨c1,H⟩|⟨c1,H⟩;rotate_left
 .skip;apply d6;refine rk [4] [] (f2 hh (zAb c1)) fun h hh=>?_;cases H;exact rt hh
 apply d6;refine rk [4] [] (f2 hh (zAa c1)) fun h hh=>?_;cases H;exact rt hh
def zb4 (k:Nat) (s_:List Int) (v_:Int):Nat->Int->Option (Int ⊕ Unit)
 |0,_=>none
 |m+1,i=>(if i<(s_.length:Int) then (if 0<=i/\i<(s_.length:Int) then (if v_=(gx s_ i) then some (.inl i) else zb4 k s_ v_ m (d9.wrap (i+1))) else none) else some (.inr ()))
def zgd (k:Nat) (s_:List Int) (v_:Int):Option Int:=((zb4 k s_ v_ k 0:Option (Int ⊕ Unit)).bind fun o=>i9 (fun r=>some r) (fun s_2=>some (-1)) o)
theorem zo8 (ax:Axs) (hx:NoAx ax) (k:Nat) (s_:List Int) (v_:Int) (v:Int) (H:zgd k s_ v_=some v):Pure Tryz.prog (EE ax) [] 118 [ints s_,.int .i64 v_] (.int .i64 v):=by
 rw [zgd] at H;refine en [.tmp 4] 19 [0,1] (hx.no _ (by decide)) (fn118 ax) ?_;intro h hh;apply d6;refine rk [0,1] [] hh fun h hh=>?_;repeat apply d6
 refine rk [0,1,7,8] [] hh fun h hh=>?_;obtain ⟨o,H1,H⟩:=zad H;refine cu [] 0 (fun h bs=>∃ s_2:Unit,o=.inr s_2/\(True)/\bs=[]) ?_ ?_
 .skip;apply fo;refine iw [0,1,7,8] (fun m h bs=>∃ (i:Int),zb4 k s_ v_ m i=some o/\(h 0=ints s_/\h 1=.int .i64 v_/\h 7=.int .i64 (s_.length:Int)/\h 8=.int .i64 i)/\bs=[]) ?_ k _ _ ?_;rotate_left
  .exact ⟨0,H1,kq hh,rfl⟩
  clear hh h H1;rintro m h bs ⟨i,H1,hh,rfl⟩;rcases m with _|m
  .rw [zb4] at H1;cases H1
  rw [zb4] at H1;apply d6;refine rk [0,1,7,8,9] [] hh fun h hh=>?_;rcases isp H1 with ⟨c1,H1⟩|⟨c1,H1⟩;rotate_left
  .skip;apply d6;refine cf (f2 hh (zAb c1)) ?_;refine xk ?_;cases H1;exact ce hh ⟨_,rfl,kq hh,rfl⟩
  apply d6;refine ct (f2 hh (zAa c1)) ?_;refine sk ?_;apply d6;apply fo;apply d6;refine rk [0,1,5,7,8] [] hh fun h hh=>?_;obtain ⟨g2,H1⟩:=isg H1;apply d6;refine rk [0,1,5,7,8,16] [] (f2 hh (zah g2)) fun h hh=>?_;rcases isp H1 with ⟨c3,H1⟩|⟨c3,H1⟩;rotate_left
  .skip;refine cf (f2 hh (zAb c3)) ?_;refine sk ?_;refine rk [0,1,7,8] [] hh fun h hh=>?_;exact rd m hh ⟨(d9.wrap (i+1)),H1,kq hh,rfl⟩
  refine ct (f2 hh (zAa c3)) ?_;apply d6;refine rk [4] [] hh fun h hh=>?_;cases H1;obtain rfl:=sinl H;exact rt hh
 clear hh h;rintro h bs ⟨s_2,rfl,hh,rfl⟩;replace H:=sinr H;apply d6;refine rk [4] [] hh fun h hh=>?_;cases H;exact rt hh
def zdh (k:Nat) (s_:List Int) (v_:Int):Option Bool:=((zgd k s_ v_).bind fun bt=>some (decide (0<=bt)))
theorem zmb (ax:Axs) (hx:NoAx ax) (k:Nat) (s_:List Int) (v_:Int) (v:Bool) (H:zdh k s_ v_=some v):Pure Tryz.prog (EE ax) [] 96 [ints s_,.int .i64 v_] (.bool v):=by
 rw [zdh] at H;refine en [.tmp 4] 9 [0,1] (hx.no _ (by decide)) (fn96 ax) ?_;intro h hh;apply d6;refine rk [0,1] [] hh fun h hh=>?_;obtain ⟨bt,e1,H⟩:=zad H;apply d6;refine rkp [4] [] [.int .i64 bt] hh ?_ ?_
 .exact ⟨ff ((zo8 ax hx k s_ v_ bt e1 ).call _),trivial⟩
 clear hh h;intro h hh;cases H;exact rt hh
def za2 (k:Nat) (s_:List Rule) (a:Spot):Nat->Int->Option (Int ⊕ Unit)
 |0,_=>none
 |m+1,i=>(if i<(s_.length:Int) then (if 0<=i/\i<(s_.length:Int) then ((zev k a (gx s_ i)).bind fun bf=>(if bf=true then some (.inl i) else za2 k s_ a m (d9.wrap (i+1)))) else none) else some (.inr ()))
def zdc (k:Nat) (s_:List Rule) (a:Spot):Option Int:=((za2 k s_ a k 0:Option (Int ⊕ Unit)).bind fun o=>i9 (fun r=>some r) (fun s_2=>some (-1)) o)
theorem zjz (ax:Axs) (hx:NoAx ax) (k:Nat) (s_:List Rule) (a:Spot) (v:Int) (H:zdc k s_ a=some v):Call Tryz.prog (EE ax) [] 89 [zas s_,.fn 55 [zd2 a] []] (stL []) (tupT [.int .i64 v]) (stL []):=by
 rw [zdc] at H;refine enB [.tmp 4] 19 [0,1] (hx.no _ (by decide)) (fn89 ax) ?_;intro h hh;apply d6;refine rk [0,1] [] hh fun h hh=>?_;repeat apply d6
 refine rk [0,1,7,8] [] hh fun h hh=>?_;obtain ⟨o,H1,H⟩:=zad H;refine cu [] 0 (fun h bs=>∃ s_2:Unit,o=.inr s_2/\(True)/\bs=[]) ?_ ?_
 .skip;apply fo;refine iw [0,1,7,8] (fun m h bs=>∃ (i:Int),za2 k s_ a m i=some o/\(h 0=zas s_/\h 1=.fn 55 [zd2 a] []/\h 7=.int .i64 (s_.length:Int)/\h 8=.int .i64 i)/\bs=[]) ?_ k _ _ ?_;rotate_left
  .exact ⟨0,H1,kq hh,rfl⟩
  clear hh h H1;rintro m h bs ⟨i,H1,hh,rfl⟩;rcases m with _|m
  .rw [za2] at H1;cases H1
  rw [za2] at H1;apply d6;refine rk [0,1,7,8,9] [] hh fun h hh=>?_;rcases isp H1 with ⟨c1,H1⟩|⟨c1,H1⟩;rotate_left
  .skip;apply d6;refine cf (f2 hh (zAb c1)) ?_;refine xk ?_;cases H1;exact ce hh ⟨_,rfl,kq hh,rfl⟩
  apply d6;refine ct (f2 hh (zAa c1)) ?_;refine sk ?_;apply d6;apply fo;apply d6;refine rk [0,1,5,7,8] [] hh fun h hh=>?_;obtain ⟨g2,H1⟩:=isg H1;obtain ⟨bf,e3,H1⟩:=zad H1;apply d6;refine rkp [0,1,5,7,8,16] [] [.bool bf] (f2 hh (zah g2)) ?_ ?_
  .exact ⟨ff ((zkk ax hx k a (gx s_ i) bf e3 ).call _),trivial⟩
  clear hh h;intro h hh;rcases isb H1 with ⟨c4,H1⟩|⟨c4,H1⟩;rotate_left
  .skip;refine cf (f2 hh c4) ?_;refine sk ?_;refine rk [0,1,7,8] [] (f2 hh c4) fun h hh=>?_;exact rd m hh ⟨(d9.wrap (i+1)),H1,kq hh,rfl⟩
  refine ct (f2 hh c4) ?_;apply d6;refine rk [4] [] (f2 hh c4) fun h hh=>?_;cases H1;obtain rfl:=sinl H;exact rtB hh
 clear hh h;rintro h bs ⟨s_2,rfl,hh,rfl⟩;replace H:=sinr H;apply d6;refine rk [4] [] hh fun h hh=>?_;cases H;exact rtB hh
def zbh (k:Nat) (s_:List Rule) (a:Spot):Option Bool:=((zdc k s_ a).bind fun rb=>some (decide (0<=rb)))
theorem ze4 (ax:Axs) (hx:NoAx ax) (k:Nat) (s_:List Rule) (a:Spot) (v:Bool) (H:zbh k s_ a=some v):Call Tryz.prog (EE ax) [] 53 [zas s_,.fn 55 [zd2 a] []] (stL []) (tupT [.bool v]) (stL []):=by
 rw [zbh] at H;refine enB [.tmp 4] 9 [0,1] (hx.no _ (by decide)) (fn53 ax) ?_;intro h hh;apply d6;refine rk [0,1] [] hh fun h hh=>?_;obtain ⟨rb,e1,H⟩:=zad H;apply d6;refine rkp [4] [] [.int .i64 rb] hh ?_ ?_
 .exact ⟨ca [] (zjz ax hx k s_ a rb e1),trivial⟩
 clear hh h;intro h hh;cases H;exact rtB hh
def zbm (k:Nat) (t:List Rule) (l:List Int):Nat->Int->(List Rule)->Nat->Option (List Rule×Nat)
 |0,_,_,_=>none
 |m+1,i,l2,n=>(if i<(t.length:Int) then (if 0<=i/\i<(t.length:Int) then ((zdh k l i).bind fun bt=>(if bt=true then zbm k t l m (d9.wrap (i+1)) l2 n else (if (n+1)*201<=1000000000 then zbm k t l m (d9.wrap (i+1)) (l2++[(⟨(gx t i).prio,((gx t i).mat),(gx t i).step,(gx t i).outs⟩:Rule)]) (n+1) else none))) else none) else some (l2,n))
def zfr (k:Nat) (t:List Rule) (l:List Int):Option (List Rule×Nat):=((zbm k t l k 0 [] 0:Option (List Rule×Nat)).bind fun s_=>some (s_.1,s_.2))
theorem zpw (ax:Axs) (hx:NoAx ax) (k:Nat) (t:List Rule) (l:List Int) (v:List Rule×Nat) (H:zfr k t l=some v):Call Tryz.prog (EE ax) [] 60 [zas t,ints l] (stL []) (tupT [.arr 0 23 0 v.2 v.2 (v.2*23)]) (stL [.cells false (v.2*23) (vecC zao v.1)]):=by
 rw [zfr] at H;refine enBr [.tmp 4] 25 [0,1] (hx.no _ (by decide)) (fn60 ax) ?_;intro h hh;apply d6;refine rk [0,1] [] hh fun h hh=>?_;apply d6;refine rk [0,1,5] [] hh fun h hh=>?_;refine vk 5 23 [0,1,5] hh fun h hh=>?_;repeat apply d6
 refine rk [1,5,8,9,10] [] hh fun h hh=>?_;obtain ⟨s_,H1,H⟩:=zad H;refine cu [5] 1 (fun h bs=>(h 5=.arr 0 23 0 s_.2 s_.2 (s_.2*23))/\bs=[.cells false (s_.2*23) (vecC zao s_.1)]) ?_ ?_
 .skip;apply fo;refine iw [1,5,8,9,10] (fun m h bs=>∃ (i:Int) (l2:List Rule) (n:Nat),zbm k t l m i l2 n=some s_/\(h 1=ints l/\h 5=.arr 0 23 0 n n (n*23)/\h 8=zas t/\h 9=.int .i64 (t.length:Int)/\h 10=.int .i64 i)/\bs=[.cells false (n*23) (vecC zao l2)]) ?_ k _ _ ?_;rotate_left
  .exact ⟨0,[],0,H1,kq hh,rfl⟩
  clear hh h H1;rintro m h bs ⟨i,l2,n,H1,hh,rfl⟩;rcases m with _|m
  .rw [zbm] at H1;cases H1
  rw [zbm] at H1;apply d6;refine rk [1,5,8,9,10,11] [] hh fun h hh=>?_;rcases isp H1 with ⟨c1,H1⟩|⟨c1,H1⟩;rotate_left
  .skip;apply d6;refine cf (f2 hh (zAb c1)) ?_;refine xk ?_;cases H1;exact ce hh ⟨kq hh,rfl⟩
  apply d6;refine ct (f2 hh (zAa c1)) ?_;refine sk ?_;apply d6;apply fo;obtain ⟨g2,H1⟩:=isg H1;apply d6;refine rk [1,5,6,7,8,9,10] [] (f2 hh (zah g2)) fun h hh=>?_;obtain ⟨bt,e3,H1⟩:=zad H1;apply d6;refine rkp [1,5,7,8,9,10,18] [] [.bool bt] hh ?_ ?_
  .exact ⟨ff ((zmb ax hx k l i bt e3 ).call _),trivial⟩
  clear hh h;intro h hh;rcases isb H1 with ⟨c4,H1⟩|⟨c4,H1⟩;rotate_left
  .skip;refine ct (f2 hh c4) ?_;obtain ⟨g5,H1⟩:=isg H1;refine rg [] [] [.cells false ((n+1)*23) (vecC zao (l2++[(⟨(gx t i).prio,((gx t i).mat),(gx t i).step,(gx t i).outs⟩:Rule)])),.cells true 23 (d7 .i64 ((gx t i).prio) :: ((((gx t i).mat).mask).l.map (d7 .i64)++((((gx t i).mat).bits).l.map (d7 .i64)++[d7 .i64 ((gx t i).step),zbp ((gx t i).outs)])))] (fun h=>h 1=ints l/\h 5=.arr 0 23 0 (n+1) (n+1) ((n+1)*23)/\h 8=zas t/\h 9=.int .i64 (t.length:Int)/\h 10=.int .i64 i) (f3 hh c4 ((show vecC zao [(⟨(gx t i).prio,((gx t i).mat),(gx t i).step,(gx t i).outs⟩:Rule)]=(d7 .i64 ((⟨(gx t i).prio,((gx t i).mat),(gx t i).step,(gx t i).outs⟩:Rule).prio) :: ((((⟨(gx t i).prio,((gx t i).mat),(gx t i).step,(gx t i).outs⟩:Rule).mat).mask).l.map (d7 .i64)++((((⟨(gx t i).prio,((gx t i).mat),(gx t i).step,(gx t i).outs⟩:Rule).mat).bits).l.map (d7 .i64)++[d7 .i64 ((⟨(gx t i).prio,((gx t i).mat),(gx t i).step,(gx t i).outs⟩:Rule).step),zbp ((⟨(gx t i).prio,((gx t i).mat),(gx t i).step,(gx t i).outs⟩:Rule).outs)]))) from zl7.trans rfl))) trivial fun h hh=>?_;refine rk [1,5,8,9,10] [] (f2 hh c4) fun h hh=>?_;exact rd m hh ⟨(d9.wrap (i+1)),(l2++[(⟨(gx t i).prio,((gx t i).mat),(gx t i).step,(gx t i).outs⟩:Rule)]),(n+1),H1,kq hh,rfl⟩
  refine cf (f2 hh c4) ?_;refine sk ?_;refine rk [1,5,8,9,10] [] (f2 hh c4) fun h hh=>?_;exact rd m hh ⟨(d9.wrap (i+1)),l2,n,H1,kq hh,rfl⟩
 clear hh h;rintro h bs ⟨hh,rfl⟩;apply d6;refine rk [4] [] hh fun h hh=>?_;cases H;exact rtB hh
def zb6 (k:Nat) (n0:Nat):Nat->Int->(List Rule)->Option (List Rule)
 |0,_,_=>none
 |m+1,i,l=>(if i<(n0:Int) then (if 0<=i/\i<(n0:Int) then (if i.toNat<l.length then zb6 k n0 m (d9.wrap (i+1)) (l.set i.toNat ({ l.getD i.toNat default with prio:=d9.wrap ((n0:Int) - i) })) else none) else none) else some l)
def zew (k:Nat) (n0:Nat) (l0:List Rule):Option (List Rule):=((zb6 k n0 k 0 l0:Option (List Rule)).bind fun s_=>(if s_.length=n0 then some s_ else none))
theorem zkl (ax:Axs) (hx:NoAx ax) (k:Nat) (n0:Nat) (l0:List Rule) (v:List Rule) (H:zew k n0 l0=some v):Call Tryz.prog (EE ax) [] 67 [.arr 0 23 0 n0 n0 (n0*23)] (stL [.cells false (n0*23) (vecC zao l0)]) (tupT [zas v]) (stL [.gone]):=by
 rw [zew] at H;refine enB [.tmp 2] 19 [0] (hx.no _ (by decide)) (fn67 ax) ?_;intro h hh;apply d6;refine rk [0] [] hh fun h hh=>?_;repeat apply d6
 refine rk [0,5,6] [] hh fun h hh=>?_;obtain ⟨s_,H1,H⟩:=zad H;refine cu [0] 1 (fun h bs=>(h 0=.arr 0 23 0 n0 n0 (n0*23))/\bs=[.cells false (n0*23) (vecC zao s_)]) ?_ ?_
 .skip;apply fo;refine iw [0,5,6] (fun m h bs=>∃ (i:Int) (l:List Rule),zb6 k n0 m i l=some s_/\(h 0=.arr 0 23 0 n0 n0 (n0*23)/\h 5=.int .i64 (n0:Int)/\h 6=.int .i64 i)/\bs=[.cells false (n0*23) (vecC zao l)]) ?_ k _ _ ?_;rotate_left
  .exact ⟨0,l0,H1,kq hh,rfl⟩
  clear hh h H1;rintro m h bs ⟨i,l,H1,hh,rfl⟩;rcases m with _|m
  .rw [zb6] at H1;cases H1
  rw [zb6] at H1;apply d6;refine rk [0,5,6,7] [] hh fun h hh=>?_;rcases isp H1 with ⟨c1,H1⟩|⟨c1,H1⟩;rotate_left
  .skip;apply d6;refine cf (f2 hh (zAb c1)) ?_;refine xk ?_;cases H1;exact ce hh ⟨kq hh,rfl⟩
  apply d6;refine ct (f2 hh (zAa c1)) ?_;refine sk ?_;apply d6;apply fo;apply d6;refine rk [0,3,5,6] [] hh fun h hh=>?_;obtain ⟨g2,H1⟩:=isg H1;obtain ⟨g3,H1⟩:=isg H1;refine rk [0,5,6] [] (f2 hh (yck zao 23 ({ l.getD i.toNat default with prio:=d9.wrap ((n0:Int) - i) }) (fun x=>zch x) (by decide) g3 (by rfl))) fun h hh=>?_;refine rk [0,5,6] [] hh fun h hh=>?_;exact rd m hh ⟨(d9.wrap (i+1)),(l.set i.toNat ({ l.getD i.toNat default with prio:=d9.wrap ((n0:Int) - i) })),H1,kq hh,rfl⟩
 clear hh h;rintro h bs ⟨hh,rfl⟩;apply d6;refine rk [2] [] hh fun h hh=>?_;obtain ⟨g4,H⟩:=isg H;refine nf 2 (b:=0) (e:=23) (off:=0) (len:=n0) (cap:=n0) (M:=(n0*23)) (s_.map zao) (kq hh) (by rfl) (by omega) (by omega) (by rw [fl];exact zim (fun x=>zch x) g4) (fun t ht=>by obtain ⟨x,_,rfl⟩:=ip.1 ht;first|rfl|exact zi7 _|exact zh5 _|exact zc6 _|exact zch _ | (rw [ek];rfl)) (by rw [ek]<;>exact g4) (by omega) ?_;rw [zhs _ _ _ (by simp only [lzA]<;>omega)];simp only [scA];refine gk [2] hh fun h hh=>?_;cases H;exact rtB hh
def zee (k:Nat) (c:zbc) (m_:Offl) (ab:List Rule×List Int):Nat->Bool->Int->Option Bool
 |0,_,_=>none
 |m+1,used,i=>(if i<(ab.1.length:Int) then (if used=true then zee k c m_ ab m true (d9.wrap (i+1)) else ((zbh k (gx c.tables m_.node) (⟨m_.back,d9.wrap ((d9.wrap (m_.first+1))+i)⟩:Spot)).bind fun rb2=>zee k c m_ ab m rb2 (d9.wrap (i+1)))) else some used)
def ze9 (k:Nat) (ab:List Rule×List Int) (ac:Pat) (i2:Int) (i3:Int):Nat->Int->(List Alt)->Option (List Alt)
 |0,_,_=>none
 |m+1,i4,l3=>(if i4<(((gx ((gx ab.1 i2).outs) i3).length):Int) then (if 0<=i4/\i4<(((gx ((gx ab.1 i2).outs) i3).length):Int) then (if i4.toNat<l3.length then ((zgf k ac ((l3.getD i4.toNat default).mod)).bind fun bv=>ze9 k ab ac i2 i3 m (d9.wrap (i4+1)) (l3.set i4.toNat ({ l3.getD i4.toNat default with mod:=bv }))) else none) else none) else some l3)
def zec (k:Nat) (ab:List Rule×List Int) (ac:Pat) (i2:Int):Nat->Int->(List (List Alt))->Nat->Option (List (List Alt)×Nat)
 |0,_,_,_=>none
 |m+1,i3,l2,n3=>(if i3<(((gx ab.1 i2).outs).length:Int) then (((if 0<=i3/\i3<(((gx ab.1 i2).outs).length:Int) then (if (gx ((gx ab.1 i2).outs) i3).length*169<=1000000000 then ((ze9 k ab ac i2 i3 k 0 (gx ((gx ab.1 i2).outs) i3):Option (List Alt)).bind fun s_9=>(if s_9.length=(gx ((gx ab.1 i2).outs) i3).length then (if (n3+1)*25<=1000000000 then some (l2++[s_9]) else none) else none)) else none) else none):Option (List (List Alt))).bind fun s_8=>zec k ab ac i2 m (d9.wrap (i3+1)) s_8 (n3+1)) else some (l2,n3))
def zed (k:Nat) (m_:Offl) (ab:List Rule×List Int) (ac:Pat):Nat->Int->(List Rule)->Nat->Option (List Rule×Nat)
 |0,_,_,_=>none
 |m+1,i2,l,n2=>(if i2<(ab.1.length:Int) then (((if 0<=i2/\i2<(ab.1.length:Int) then ((zec k ab ac i2 k 0 [] 0:Option (List (List Alt)×Nat)).bind fun s_7=>((zbi k (⟨m_.back,d9.wrap ((d9.wrap (m_.first+1))+i2)⟩:Spot)).bind fun bh=>(if s_7.1.length=s_7.2 then (if (n2+1)*201<=1000000000 then some (l++[(⟨0,bh,(gx ab.1 i2).step,s_7.1⟩:Rule)]) else none) else none))) else none):Option (List Rule)).bind fun s_6=>zed k m_ ab ac m (d9.wrap (i2+1)) s_6 (n2+1)) else some (l,n2))
def zds (k:Nat) (c:zbc) (m_:Offl) (aa:ze2×Bool) (ab:List Rule×List Int):Nat->Int->(List Rule)->Nat->Option (List Rule×Nat)
 |0,_,_,_=>none
 |m+1,i5,l4,n4=>(if i5<(aa.1.rules.length:Int) then (if 0<=i5/\i5<(aa.1.rules.length:Int) then (if (0:Int)<=(gx aa.1.rules i5)/\(gx aa.1.rules i5)<((gx c.tables m_.node).length:Int) then (if (0:Int)<=0/\0<(10:Int) then (if (0:Int)<=9/\9<(10:Int) then (if 0<=i5/\i5<(ab.2.length:Int) then (if 0<=(gx ab.2 i5) then ((zll k m_.back (d9.wrap ((d9.wrap (m_.first+1))+(gx ab.2 i5)))).bind fun av=>(if (n4+1)*201<=1000000000 then zds k c m_ aa ab m (d9.wrap (i5+1)) (l4++[(⟨0,(⟨((gx (gx c.tables m_.node) (gx aa.1.rules i5)).mat).mask,((((gx (gx c.tables m_.node) (gx aa.1.rules i5)).mat).bits).set 0 m_.out).set 9 m_.first⟩:Pat),(-1),av⟩:Rule)]) (n4+1) else none)) else (if (n4+1)*201<=1000000000 then zds k c m_ aa ab m (d9.wrap (i5+1)) (l4++[(⟨0,(⟨((gx (gx c.tables m_.node) (gx aa.1.rules i5)).mat).mask,((((gx (gx c.tables m_.node) (gx aa.1.rules i5)).mat).bits).set 0 m_.out).set 9 m_.first⟩:Pat),(-1),[]⟩:Rule)]) (n4+1) else none)) else none) else none) else none) else none) else none) else some (l4,n4))
def zng (k:Nat) (n:Net) (c:zbc) (m_:Offl):Option (zbc×Int):=((((zcn k m_.node (n.nodes.length:Int)).bind fun r1=>(if r1=true then ((zcn k m_.out (n.links.length:Int)).bind fun r12=>(if r12=true then ((zcn k m_.back (n.links.length:Int)).bind fun r13=>(if r13=true then ((zcn k m_.port 65536).bind fun r14=>(if r14=true then ((zcn k m_.tag 65536).bind fun r15=>some (!r15)) else some true)) else some true)) else some true)) else some true)):Option Bool).bind fun s_=>(if s_=true then some ((⟨0,[],[]⟩:zbc),1) else (if 0<=m_.out/\m_.out<(n.links.length:Int) then (if 0<=m_.back/\m_.back<(n.links.length:Int) then (((if ((gx n.links m_.out).frm)≠m_.node then some true else (if ((gx n.links m_.back).frm)≠((gx n.links m_.out).to) then some true else some (decide (((gx n.links m_.back).to)≠m_.node)))):Option Bool).bind fun s_2=>(if s_2=true then some ((⟨0,[],[]⟩:zbc),1) else (if 0<=m_.node/\m_.node<(c.tables.length:Int) then (if (0:Int)<=((gx n.links m_.out).to)/\((gx n.links m_.out).to)<(c.tables.length:Int) then ((znf k (gx c.tables m_.node) (⟨m_.port,m_.tag⟩:Spot)).bind fun aa=>(if aa.2=true then ((ziq k (gx c.tables m_.node) aa.1).bind fun ab=>(((if m_.first<1 then some true else some (decide ((d9.wrap (65535 - (ab.1.length:Int)))<m_.first))):Option Bool).bind fun s_3=>(if s_3=true then some ((⟨0,[],[]⟩:zbc),1) else ((zbh k (gx c.tables ((gx n.links m_.out).to)) (⟨m_.out,m_.first⟩:Spot)).bind fun rb=>((zee k c m_ ab k rb 0:Option Bool).bind fun s_4=>(if s_4=true then some ((⟨0,[],[]⟩:zbc),26) else ((zfr k (gx c.tables m_.node) aa.1.rules).bind fun rb3=>((zbi k (⟨m_.port,m_.tag⟩:Spot)).bind fun ai=>((zll k m_.out m_.first).bind fun aw=>(if (rb3.2+1)*201<=1000000000 then ((zbi k (⟨m_.port,m_.tag⟩:Spot)).bind fun ac=>((zed k m_ ab ac k 0 (rb3.1++[(⟨0,ai,(-1),aw⟩:Rule)]) (rb3.2+1):Option (List Rule×Nat)).bind fun s_5=>(if (gx c.tables ((gx n.links m_.out).to)).length*201<=1000000000 then ((zds k c m_ aa ab k 0 (gx c.tables ((gx n.links m_.out).to)) ((gx c.tables ((gx n.links m_.out).to)).length):Option (List Rule×Nat)).bind fun s_10=>(((if 4000<(s_5.2:Int) then some true else some (decide (4000<(s_10.2:Int)))):Option Bool).bind fun s_11=>(if s_11=true then some ((⟨0,[],[]⟩:zbc),2) else (if c.tables.length*25<=1000000000 then ((zew k s_5.2 s_5.1).bind fun rb4=>((zew k s_10.2 s_10.1).bind fun rb5=>(if m_.node.toNat<c.tables.length then (if ((gx n.links m_.out).to).toNat<(c.tables.set m_.node.toNat rb4).length then (if ((c.tables.set m_.node.toNat rb4).set ((gx n.links m_.out).to).toNat rb5).length=c.tables.length then some ((⟨c.version,(c.tables.set m_.node.toNat rb4).set ((gx n.links m_.out).to).toNat rb5,c.steps⟩:zbc),0) else none) else none) else none))) else none)))) else none))) else none)))))))))) else some ((⟨0,[],[]⟩:zbc),9))) else none) else none))) else none) else none)))
theorem z3m (ax:Axs) (hx:NoAx ax) (k:Nat) (n:Net) (c:zbc) (m_:Offl) (v:zbc×Int) (H:zng k n c m_=some v):Pure Tryz.prog (EE ax) [] 25 [eNet n,zg9 c,zrq m_] (tupT [zg9 v.1,.int .i64 v.2]):=by
 rw [zng] at H;refine enN [.cell 6 30,.tmp 7] 329 [0,1,2] (hx.no _ (by decide)) (fn25 ax) ?_;intro h hh;apply d6;refine rk [3,4,5,6] [] hh fun h hh=>?_;refine zk 5 2 6 true [.int .i64 m_.node,.int .i64 m_.port,.int .i64 m_.tag,.int .i64 m_.out,.int .i64 m_.back,.int .i64 m_.first] [3,4,5,6] hh fun h hh=>?_;apply d6;refine rk [3,4,5,6,8] [] hh fun h hh=>?_;obtain ⟨s_,H1,H⟩:=zad H;repeat apply d6
 refine cu [3,4,5,6,75] 4 (fun h bs=>(h 3=.ptr 0 0 3/\h 4=.ptr 1 0 3/\h 5=.cp [.int .i64 m_.node,.int .i64 m_.port,.int .i64 m_.tag,.int .i64 m_.out,.int .i64 m_.back,.int .i64 m_.first]/\h 6=.ptr 3 0 3/\h 75=.bool s_)/\bs=[.cells true 3 [zax n.nodes,zay n.links,zaz n.edges],.cells true 3 [.int .i64 c.version,zau c.tables,zat c.steps],.gone,.cells true 3 [.int .i64 0,.nils,.nils]]) ?_ ?_
 .skip;obtain ⟨r1,e1,H1⟩:=zad H1;rcases isb H1 with ⟨c2,H1⟩|⟨c2,H1⟩;rotate_left
  .skip;refine rkp [3,4,5,6,75] [] [.bool r1] (f3 hh c2 (zpo ax)) ?_ ?_
   .exact ⟨ff (gq (zbe ax hx k m_.node (n.nodes.length:Int) r1 e1 ) (by first|rfl|simp only [c2])),trivial⟩
   clear hh h;intro h hh;cases H1;exact ce hh ⟨kq hh,rfl⟩
  obtain ⟨r12,e3,H1⟩:=zad H1;rcases isb H1 with ⟨c4,H1⟩|⟨c4,H1⟩;rotate_left
  .skip;refine rkp [3,4,5,6,75] [] [.bool r1,.bool r12] (f3 hh c2 (f3 c4 (zpo ax) (ztm ax))) ?_ ?_
   .exact ⟨ff (gq (zbe ax hx k m_.node (n.nodes.length:Int) r1 e1 ) (by first|rfl|simp only [c2,c4])),ff (gq (zbe ax hx k m_.out (n.links.length:Int) r12 e3 ) (by first|rfl|simp only [c2,c4])),trivial⟩
   clear hh h;intro h hh;cases H1;exact ce hh ⟨kq hh,rfl⟩
  obtain ⟨r13,e5,H1⟩:=zad H1;rcases isb H1 with ⟨c6,H1⟩|⟨c6,H1⟩;rotate_left
  .skip;refine rkp [3,4,5,6,75] [] [.bool r1,.bool r12,.bool r13] (f3 hh c2 (f3 c4 c6 (f3 (zpo ax) (ztm ax) (zwz ax)))) ?_ ?_
   .exact ⟨ff (gq (zbe ax hx k m_.node (n.nodes.length:Int) r1 e1 ) (by first|rfl|simp only [c2,c4,c6])),ff (gq (zbe ax hx k m_.out (n.links.length:Int) r12 e3 ) (by first|rfl|simp only [c2,c4,c6])),ff (gq (zbe ax hx k m_.back (n.links.length:Int) r13 e5 ) (by first|rfl|simp only [c2,c4,c6])),trivial⟩
   clear hh h;intro h hh;cases H1;exact ce hh ⟨kq hh,rfl⟩
  obtain ⟨r14,e7,H1⟩:=zad H1;rcases isb H1 with ⟨c8,H1⟩|⟨c8,H1⟩;rotate_left
  .skip;refine rkp [3,4,5,6,75] [] [.bool r1,.bool r12,.bool r13,.bool r14] (f3 hh c2 (f3 c4 c6 (f3 c8 (zpo ax) (f3 (yii ax) (ztm ax) (zwz ax))))) ?_ ?_
   .exact ⟨ff (gq (zbe ax hx k m_.node (n.nodes.length:Int) r1 e1 ) (by first|rfl|simp only [c2,c4,c6,c8])),ff (gq (zbe ax hx k m_.out (n.links.length:Int) r12 e3 ) (by first|rfl|simp only [c2,c4,c6,c8])),ff (gq (zbe ax hx k m_.back (n.links.length:Int) r13 e5 ) (by first|rfl|simp only [c2,c4,c6,c8])),ff (gq (zbe ax hx k m_.port 65536 r14 e7 ) (by first|rfl|simp only [c2,c4,c6,c8])),trivial⟩
   clear hh h;intro h hh;cases H1;exact ce hh ⟨kq hh,rfl⟩
  obtain ⟨r15,e9,H1⟩:=zad H1;refine rkp [3,4,5,6,75] [] [.bool r1,.bool r12,.bool r13,.bool r14,.bool r15] (f3 hh c2 (f3 c4 c6 (f3 c8 (zpo ax) (f3 (yii ax) (yn3 ax) (f2 (ztm ax) (zwz ax)))))) ?_ ?_
  .exact ⟨ff (gq (zbe ax hx k m_.node (n.nodes.length:Int) r1 e1 ) (by first|rfl|simp only [c2,c4,c6,c8])),ff (gq (zbe ax hx k m_.out (n.links.length:Int) r12 e3 ) (by first|rfl|simp only [c2,c4,c6,c8])),ff (gq (zbe ax hx k m_.back (n.links.length:Int) r13 e5 ) (by first|rfl|simp only [c2,c4,c6,c8])),ff (gq (zbe ax hx k m_.port 65536 r14 e7 ) (by first|rfl|simp only [c2,c4,c6,c8])),ff (gq (zbe ax hx k m_.tag 65536 r15 e9 ) (by first|rfl|simp only [c2,c4,c6,c8])),trivial⟩
  clear hh h;intro h hh;cases H1;exact ce hh ⟨kq hh,rfl⟩
 clear hh h;rintro h bs ⟨hh,rfl⟩;rcases isb H with ⟨c10,H⟩|⟨c10,H⟩;rotate_left
 .skip;refine cf (f2 hh c10) ?_;refine sk ?_;obtain ⟨g11,H⟩:=isg H;obtain ⟨g12,H⟩:=isg H;apply d6;refine ds 12 [(9,some 4),(83,some 0),(85,none),(87,none)] [4,5,6,9,10] [] [] [] (f3 hh c10 (f3 (zah g11) (zah g12) (f2 (ztm ax) (zwz ax)))) trivial trivial fun h hh=>?_;refine zk 9 4 3 true [.int .i64 ((gx n.links m_.out).frm),.int .i64 ((gx n.links m_.out).to),.int .i64 ((gx n.links m_.out).cap)] [4,5,6,9,10] hh fun h hh=>?_;obtain ⟨s_2,H1,H⟩:=zad H;repeat apply d6
  refine cu [4,5,6,9,107] 6 (fun h bs=>(h 4=.ptr 1 0 3/\h 5=.cp [.int .i64 m_.node,.int .i64 m_.port,.int .i64 m_.tag,.int .i64 m_.out,.int .i64 m_.back,.int .i64 m_.first]/\h 6=.ptr 3 0 3/\h 9=.cp [.int .i64 ((gx n.links m_.out).frm),.int .i64 ((gx n.links m_.out).to),.int .i64 ((gx n.links m_.out).cap)]/\h 107=.bool s_2)/\bs=[.cells true 3 [zax n.nodes,zay n.links,zaz n.edges],.cells true 3 [.int .i64 c.version,zau c.tables,zat c.steps],.gone,.cells true 3 [.int .i64 0,.nils,.nils],.gone,.cells true 3 [.int .i64 ((gx n.links m_.back).frm),.int .i64 ((gx n.links m_.back).to),.int .i64 ((gx n.links m_.back).cap)]]) ?_ ?_
  .skip;rcases isp H1 with ⟨c13,H1⟩|⟨c13,H1⟩;rotate_left
   .skip;rcases isp H1 with ⟨c14,H1⟩|⟨c14,H1⟩;rotate_left
    .skip;refine rk [4,5,6,9,107] [] (f3 hh (zAb c13) (f3 (zAb c14) c10 (zpo ax))) fun h hh=>?_;cases H1;exact ce hh ⟨kq hh,rfl⟩
    refine rk [4,5,6,9,107] [] (f3 hh (zAb c13) (f3 (zAa c14) c10 (zpo ax))) fun h hh=>?_;cases H1;exact ce hh ⟨kq hh,rfl⟩
   refine rk [4,5,6,9,107] [] (f3 hh (zAa c13) (f2 c10 (zpo ax))) fun h hh=>?_;cases H1;exact ce hh ⟨kq hh,rfl⟩
  clear hh h;rintro h bs ⟨hh,rfl⟩;rcases isb H with ⟨c15,H⟩|⟨c15,H⟩;rotate_left
  .skip;refine cf (f2 hh c15) ?_;refine sk ?_;obtain ⟨g16,H⟩:=isg H;obtain ⟨g17,H⟩:=isg H;apply d6;refine dk 16 [4,5,6,9,11,12,13] [] [] [] (f3 hh c10 (f3 c15 (zah g16) (f3 (zah g17) (zpo ax) (f2 (yii ax) (yn3 ax))))) trivial trivial fun h hh=>?_;refine zk 13 6 2 true [.int .i64 m_.port,.int .i64 m_.tag] [4,5,6,9,11,12,13] hh fun h hh=>?_;obtain ⟨aa,e18,H⟩:=zad H;apply d6;refine rkc [4,5,6,9,11,12,13,14,15] [] [(.tup [zgm aa.1,.bool aa.2],stL [.cells true 3 [zax n.nodes,zay n.links,zaz n.edges],.cells true 3 [.int .i64 c.version,zau c.tables,zat c.steps],.gone,.cells true 3 [.int .i64 0,.nils,.nils],.gone,.cells true 3 [.int .i64 ((gx n.links m_.back).frm),.int .i64 ((gx n.links m_.back).to),.int .i64 ((gx n.links m_.back).cap)],.gone])] (f3 hh c10 c15) ?_ ?_
   .exact ⟨ff (gq (z3l ax hx k (gx c.tables m_.node) (⟨m_.port,m_.tag⟩:Spot) aa e18 ) (by first|rfl|simp only [c10,c15])),trivial⟩
   clear hh h;intro h hh;repeat apply d6
   refine rk [4,5,6,9,11,12,13,14,133] [] (f3 hh c10 c15) fun h hh=>?_;rcases isb H with ⟨c19,H⟩|⟨c19,H⟩;rotate_left
   .skip;refine ct (f2 hh c19) ?_;apply d6;refine rk [6,7] [] (f3 hh c10 (f3 c15 c19 (bt30 ax))) fun h hh=>?_;refine nz 3 1 1 ?_;refine nz 3 2 6 ?_;cases H;exact rtc hh
   refine cf (f2 hh c19) ?_;refine sk ?_;obtain ⟨ab,e20,H⟩:=zad H;apply d6;refine rkp [4,5,6,9,11,12,13,14,16,17] [] [.tup [zas ab.1,ints ab.2]] (f3 hh c10 (f2 c15 c19)) ?_ ?_
   .exact ⟨ff (gq (zu4 ax hx k (gx c.tables m_.node) aa.1 ab e20 ) (by first|rfl|simp only [c10,c15,c19])),trivial⟩
   clear hh h;intro h hh;obtain ⟨s_3,H1,H⟩:=zad H;repeat apply d6
   refine cu [4,5,6,9,11,12,13,14,16,17,151] 8 (fun h bs=>(h 4=.ptr 1 0 3/\h 5=.cp [.int .i64 m_.node,.int .i64 m_.port,.int .i64 m_.tag,.int .i64 m_.out,.int .i64 m_.back,.int .i64 m_.first]/\h 6=.ptr 3 0 3/\h 9=.cp [.int .i64 ((gx n.links m_.out).frm),.int .i64 ((gx n.links m_.out).to),.int .i64 ((gx n.links m_.out).cap)]/\h 11=zas (gx c.tables m_.node)/\h 12=zas (gx c.tables ((gx n.links m_.out).to))/\h 13=.cp [.int .i64 m_.port,.int .i64 m_.tag]/\h 14=.ptr 7 0 3/\h 16=zas ab.1/\h 17=ints ab.2/\h 151=.bool s_3)/\bs=[.cells true 3 [zax n.nodes,zay n.links,zaz n.edges],.cells true 3 [.int .i64 c.version,zau c.tables,zat c.steps],.gone,.cells true 3 [.int .i64 0,.nils,.nils],.gone,.cells true 3 [.int .i64 ((gx n.links m_.back).frm),.int .i64 ((gx n.links m_.back).to),.int .i64 ((gx n.links m_.back).cap)],.gone,.cells true 3 [.int .i64 aa.1.port,.int .i64 aa.1.tag,ints aa.1.rules]]) ?_ ?_
   .skip;rcases isp H1 with ⟨c21,H1⟩|⟨c21,H1⟩;rotate_left
    .skip;refine rk [4,5,6,9,11,12,13,14,16,17,151] [] (f3 hh (zAb c21) (f3 c10 c15 (f2 c19 (ztl ax)))) fun h hh=>?_;cases H1;exact ce hh ⟨kq hh,rfl⟩
    refine rk [4,5,6,9,11,12,13,14,16,17,151] [] (f3 hh (zAa c21) (f3 c10 c15 (f2 c19 (ztl ax)))) fun h hh=>?_;cases H1;exact ce hh ⟨kq hh,rfl⟩
   clear hh h;rintro h bs ⟨hh,rfl⟩;rcases isb H with ⟨c22,H⟩|⟨c22,H⟩;rotate_left
   .skip;refine cf (f2 hh c22) ?_;refine sk ?_;obtain ⟨rb,e23,H⟩:=zad H;apply d6;refine rkp [4,5,6,9,11,12,13,14,16,17,18] [] [.bool rb] (f3 hh c10 (f3 c15 c19 (f3 c22 (ztm ax) (ztl ax)))) ?_ ?_
    .exact ⟨ca [] (ze4 ax hx k (gx c.tables ((gx n.links m_.out).to)) (⟨m_.out,m_.first⟩:Spot) rb e23),trivial⟩
    clear hh h;intro h hh;repeat apply d6
    refine rk [4,5,6,9,11,12,13,14,16,17,18,162,163] [] (f3 hh c10 (f3 c15 c19 c22)) fun h hh=>?_;obtain ⟨s_4,H1,H⟩:=zad H;refine cu [4,5,6,9,11,12,13,14,16,17,18] 8 (fun h bs=>(h 4=.ptr 1 0 3/\h 5=.cp [.int .i64 m_.node,.int .i64 m_.port,.int .i64 m_.tag,.int .i64 m_.out,.int .i64 m_.back,.int .i64 m_.first]/\h 6=.ptr 3 0 3/\h 9=.cp [.int .i64 ((gx n.links m_.out).frm),.int .i64 ((gx n.links m_.out).to),.int .i64 ((gx n.links m_.out).cap)]/\h 11=zas (gx c.tables m_.node)/\h 12=zas (gx c.tables ((gx n.links m_.out).to))/\h 13=.cp [.int .i64 m_.port,.int .i64 m_.tag]/\h 14=.ptr 7 0 3/\h 16=zas ab.1/\h 17=ints ab.2/\h 18=.bool s_4)/\bs=[.cells true 3 [zax n.nodes,zay n.links,zaz n.edges],.cells true 3 [.int .i64 c.version,zau c.tables,zat c.steps],.gone,.cells true 3 [.int .i64 0,.nils,.nils],.gone,.cells true 3 [.int .i64 ((gx n.links m_.back).frm),.int .i64 ((gx n.links m_.back).to),.int .i64 ((gx n.links m_.back).cap)],.gone,.cells true 3 [.int .i64 aa.1.port,.int .i64 aa.1.tag,ints aa.1.rules]]) ?_ ?_
    .skip;apply fo;refine iw [4,5,6,9,11,12,13,14,16,17,18,162,163] (fun m h bs=>∃ (used:Bool) (i:Int),zee k c m_ ab m used i=some s_4/\(h 4=.ptr 1 0 3/\h 5=.cp [.int .i64 m_.node,.int .i64 m_.port,.int .i64 m_.tag,.int .i64 m_.out,.int .i64 m_.back,.int .i64 m_.first]/\h 6=.ptr 3 0 3/\h 9=.cp [.int .i64 ((gx n.links m_.out).frm),.int .i64 ((gx n.links m_.out).to),.int .i64 ((gx n.links m_.out).cap)]/\h 11=zas (gx c.tables m_.node)/\h 12=zas (gx c.tables ((gx n.links m_.out).to))/\h 13=.cp [.int .i64 m_.port,.int .i64 m_.tag]/\h 14=.ptr 7 0 3/\h 16=zas ab.1/\h 17=ints ab.2/\h 18=.bool used/\h 162=.int .i64 (ab.1.length:Int)/\h 163=.int .i64 i)/\bs=[.cells true 3 [zax n.nodes,zay n.links,zaz n.edges],.cells true 3 [.int .i64 c.version,zau c.tables,zat c.steps],.gone,.cells true 3 [.int .i64 0,.nils,.nils],.gone,.cells true 3 [.int .i64 ((gx n.links m_.back).frm),.int .i64 ((gx n.links m_.back).to),.int .i64 ((gx n.links m_.back).cap)],.gone,.cells true 3 [.int .i64 aa.1.port,.int .i64 aa.1.tag,ints aa.1.rules]]) ?_ k _ _ ?_;rotate_left
     .exact ⟨rb,0,H1,kq hh,rfl⟩
     clear hh h H1;rintro m h bs ⟨used,i,H1,hh,rfl⟩;rcases m with _|m
     .rw [zee] at H1;cases H1
     rw [zee] at H1;apply d6;refine rk [4,5,6,9,11,12,13,14,16,17,18,162,163,164] [] (f3 hh c10 (f3 c15 c19 c22)) fun h hh=>?_;rcases isp H1 with ⟨c24,H1⟩|⟨c24,H1⟩;rotate_left
     .skip;apply d6;refine cf (f2 hh (zAb c24)) ?_;refine xk ?_;cases H1;exact ce hh ⟨kq hh,rfl⟩
     apply d6;refine ct (f2 hh (zAa c24)) ?_;refine sk ?_;apply d6;apply fo;apply d6;refine rk [4,5,6,9,11,12,13,14,16,17,18,19,162,163] [] (f3 hh c10 (f3 c15 c19 c22)) fun h hh=>?_;rcases isb H1 with ⟨c25,H1⟩|⟨c25,H1⟩;rotate_left
     .skip;obtain ⟨rb2,e26,H1⟩:=zad H1;refine rkp [4,5,6,9,11,12,13,14,16,17,18,162,163] [] [.bool rb2] (f3 hh c25 (f3 c10 c15 (f3 c19 c22 (f2 (zwz ax) (ztl ax))))) ?_ ?_
      .exact ⟨ca [] (ze4 ax hx k (gx c.tables m_.node) (⟨m_.back,d9.wrap ((d9.wrap (m_.first+1))+i)⟩:Spot) rb2 e26),trivial⟩
      clear hh h;intro h hh;refine rk [4,5,6,9,11,12,13,14,16,17,18,162,163] [] (f3 hh c10 (f3 c15 c19 (f2 c22 c25))) fun h hh=>?_;exact rd m hh ⟨rb2,(d9.wrap (i+1)),H1,kq hh,rfl⟩
     refine rk [4,5,6,9,11,12,13,14,16,17,18,162,163] [] (f3 hh c25 (f3 c10 c15 (f2 c19 c22))) fun h hh=>?_;refine rk [4,5,6,9,11,12,13,14,16,17,18,162,163] [] (f3 hh c10 (f3 c15 c19 (f2 c22 c25))) fun h hh=>?_;exact rd m hh ⟨true,(d9.wrap (i+1)),H1,kq hh,rfl⟩
    clear hh h;rintro h bs ⟨hh,rfl⟩;repeat apply d6
    refine rk [4,5,6,9,11,12,13,14,16,17,181] [] (f3 hh c10 (f3 c15 c19 c22)) fun h hh=>?_;rcases isb H with ⟨c27,H⟩|⟨c27,H⟩;rotate_left
    .skip;refine cf (f2 hh c27) ?_;refine sk ?_;obtain ⟨rb3,e28,H⟩:=zad H;obtain ⟨ai,e29,H⟩:=zad H;obtain ⟨aw,e30,H⟩:=zad H;obtain ⟨g31,H⟩:=isg H;apply d6;refine dcg 3 [5,13] [] [] [(.arr 8 23 0 rb3.2 rb3.2 (rb3.2*23),stL [.cells true 3 [zax n.nodes,zay n.links,zaz n.edges],.cells true 3 [.int .i64 c.version,zau c.tables,zat c.steps],.gone,.cells true 3 [.int .i64 0,.nils,.nils],.gone,.cells true 3 [.int .i64 ((gx n.links m_.back).frm),.int .i64 ((gx n.links m_.back).to),.int .i64 ((gx n.links m_.back).cap)],.gone,.cells true 3 [.int .i64 aa.1.port,.int .i64 aa.1.tag,ints aa.1.rules],.cells false (rb3.2*23) (vecC zao rb3.1)]),(ePat ai,stL [.cells true 3 [zax n.nodes,zay n.links,zaz n.edges],.cells true 3 [.int .i64 c.version,zau c.tables,zat c.steps],.gone,.cells true 3 [.int .i64 0,.nils,.nils],.gone,.cells true 3 [.int .i64 ((gx n.links m_.back).frm),.int .i64 ((gx n.links m_.back).to),.int .i64 ((gx n.links m_.back).cap)],.gone,.cells true 3 [.int .i64 aa.1.port,.int .i64 aa.1.tag,ints aa.1.rules],.cells false (rb3.2*23) (vecC zao rb3.1)]),(zbp aw,stL [.cells true 3 [zax n.nodes,zay n.links,zaz n.edges],.cells true 3 [.int .i64 c.version,zau c.tables,zat c.steps],.gone,.cells true 3 [.int .i64 0,.nils,.nils],.gone,.cells true 3 [.int .i64 ((gx n.links m_.back).frm),.int .i64 ((gx n.links m_.back).to),.int .i64 ((gx n.links m_.back).cap)],.gone,.cells true 3 [.int .i64 aa.1.port,.int .i64 aa.1.tag,ints aa.1.rules],.cells false (rb3.2*23) (vecC zao rb3.1)])] [.cells true 3 [zax n.nodes,zay n.links,zaz n.edges],.cells true 3 [.int .i64 c.version,zau c.tables,zat c.steps],.gone,.cells true 3 [.int .i64 0,.nils,.nils],.gone,.cells true 3 [.int .i64 ((gx n.links m_.back).frm),.int .i64 ((gx n.links m_.back).to),.int .i64 ((gx n.links m_.back).cap)],.gone,.cells true 3 [.int .i64 aa.1.port,.int .i64 aa.1.tag,ints aa.1.rules],.cells false ((rb3.2+1)*23) (vecC zao (rb3.1++[(⟨0,ai,(-1),aw⟩:Rule)]))] (fun h=>h 4=.ptr 1 0 3/\h 5=.cp [.int .i64 m_.node,.int .i64 m_.port,.int .i64 m_.tag,.int .i64 m_.out,.int .i64 m_.back,.int .i64 m_.first]/\h 6=.ptr 3 0 3/\h 9=.cp [.int .i64 ((gx n.links m_.out).frm),.int .i64 ((gx n.links m_.out).to),.int .i64 ((gx n.links m_.out).cap)]/\h 11=zas (gx c.tables m_.node)/\h 12=zas (gx c.tables ((gx n.links m_.out).to))/\h 13=.cp [.int .i64 m_.port,.int .i64 m_.tag]/\h 14=.ptr 7 0 3/\h 16=zas ab.1/\h 17=ints ab.2/\h 20=.arr 8 23 0 (rb3.2+1) (rb3.2+1) ((rb3.2+1)*23)) (f3 hh c10 (f3 c15 c19 (f3 c22 c27 (f3 ((show vecC zao [(⟨0,ai,(-1),aw⟩:Rule)]=(d7 .i64 ((⟨0,ai,(-1),aw⟩:Rule).prio) :: ((((⟨0,ai,(-1),aw⟩:Rule).mat).mask).l.map (d7 .i64)++((((⟨0,ai,(-1),aw⟩:Rule).mat).bits).l.map (d7 .i64)++[d7 .i64 ((⟨0,ai,(-1),aw⟩:Rule).step),zbp ((⟨0,ai,(-1),aw⟩:Rule).outs)]))) from zl7.trans rfl)) (yq7 ax) (f3 (ztm ax) (ztl ax) (f3 (z7p ax) (z7o ax) (yge ax))))))) trivial ?_ ?_
     .exact ⟨car [8] (zpw ax hx k (gx c.tables m_.node) aa.1.rules rb3 e28),ff (gq (zdj ax hx k (⟨m_.port,m_.tag⟩:Spot) ai e29 ) (by first|rfl|simp only [c10,c15,c19,c22,c27])),ff (gq (zsz ax hx k m_.out m_.first aw e30 ) (by first|rfl|simp only [c10,c15,c19,c22,c27])),trivial⟩
     clear hh h;intro h hh;obtain ⟨ac,e32,H⟩:=zad H;apply d6;refine rkc [4,5,6,9,11,12,14,16,17,20,21] [] [(ePat ac,stL [.cells true 3 [zax n.nodes,zay n.links,zaz n.edges],.cells true 3 [.int .i64 c.version,zau c.tables,zat c.steps],.gone,.cells true 3 [.int .i64 0,.nils,.nils],.gone,.cells true 3 [.int .i64 ((gx n.links m_.back).frm),.int .i64 ((gx n.links m_.back).to),.int .i64 ((gx n.links m_.back).cap)],.gone,.cells true 3 [.int .i64 aa.1.port,.int .i64 aa.1.tag,ints aa.1.rules],.cells false ((rb3.2+1)*23) (vecC zao (rb3.1++[(⟨0,ai,(-1),aw⟩:Rule)]))])] (f3 hh c10 (f3 c15 c19 (f2 c22 c27))) ?_ ?_
     .exact ⟨ff (gq (zdj ax hx k (⟨m_.port,m_.tag⟩:Spot) ac e32 ) (by first|rfl|simp only [c10,c15,c19,c22,c27])),trivial⟩
     clear hh h;intro h hh;repeat apply d6
     refine rk [4,5,6,9,11,12,14,17,20,21,199,200,201] [] (f3 hh c10 (f3 c15 c19 (f2 c22 c27))) fun h hh=>?_;obtain ⟨s_5,H1,H⟩:=zad H;refine cu [4,5,6,9,11,12,14,17,20] 10 (fun h bs=>(h 4=.ptr 1 0 3/\h 5=.cp [.int .i64 m_.node,.int .i64 m_.port,.int .i64 m_.tag,.int .i64 m_.out,.int .i64 m_.back,.int .i64 m_.first]/\h 6=.ptr 3 0 3/\h 9=.cp [.int .i64 ((gx n.links m_.out).frm),.int .i64 ((gx n.links m_.out).to),.int .i64 ((gx n.links m_.out).cap)]/\h 11=zas (gx c.tables m_.node)/\h 12=zas (gx c.tables ((gx n.links m_.out).to))/\h 14=.ptr 7 0 3/\h 17=ints ab.2/\h 20=.arr 8 23 0 s_5.2 s_5.2 (s_5.2*23))/\bs=[.cells true 3 [zax n.nodes,zay n.links,zaz n.edges],.cells true 3 [.int .i64 c.version,zau c.tables,zat c.steps],.gone,.cells true 3 [.int .i64 0,.nils,.nils],.gone,.cells true 3 [.int .i64 ((gx n.links m_.back).frm),.int .i64 ((gx n.links m_.back).to),.int .i64 ((gx n.links m_.back).cap)],.gone,.cells true 3 [.int .i64 aa.1.port,.int .i64 aa.1.tag,ints aa.1.rules],.cells false (s_5.2*23) (vecC zao s_5.1),.cells true 20 (ac.mask.l.map (d7 .i64)++(ac.bits.l.map (d7 .i64)))]) ?_ ?_
     .skip;apply fo;refine iw [4,5,6,9,11,12,14,17,20,21,199,200,201] (fun m h bs=>∃ (i2:Int) (l:List Rule) (n2:Nat),zed k m_ ab ac m i2 l n2=some s_5/\(h 4=.ptr 1 0 3/\h 5=.cp [.int .i64 m_.node,.int .i64 m_.port,.int .i64 m_.tag,.int .i64 m_.out,.int .i64 m_.back,.int .i64 m_.first]/\h 6=.ptr 3 0 3/\h 9=.cp [.int .i64 ((gx n.links m_.out).frm),.int .i64 ((gx n.links m_.out).to),.int .i64 ((gx n.links m_.out).cap)]/\h 11=zas (gx c.tables m_.node)/\h 12=zas (gx c.tables ((gx n.links m_.out).to))/\h 14=.ptr 7 0 3/\h 17=ints ab.2/\h 20=.arr 8 23 0 n2 n2 (n2*23)/\h 21=.ptr 9 0 20/\h 199=zas ab.1/\h 200=.int .i64 (ab.1.length:Int)/\h 201=.int .i64 i2)/\bs=[.cells true 3 [zax n.nodes,zay n.links,zaz n.edges],.cells true 3 [.int .i64 c.version,zau c.tables,zat c.steps],.gone,.cells true 3 [.int .i64 0,.nils,.nils],.gone,.cells true 3 [.int .i64 ((gx n.links m_.back).frm),.int .i64 ((gx n.links m_.back).to),.int .i64 ((gx n.links m_.back).cap)],.gone,.cells true 3 [.int .i64 aa.1.port,.int .i64 aa.1.tag,ints aa.1.rules],.cells false (n2*23) (vecC zao l),.cells true 20 (ac.mask.l.map (d7 .i64)++(ac.bits.l.map (d7 .i64)))]) ?_ k _ _ ?_;rotate_left
      .exact ⟨0,(rb3.1++[(⟨0,ai,(-1),aw⟩:Rule)]),(rb3.2+1),H1,kq hh,rfl⟩
      clear hh h H1;rintro m h bs ⟨i2,l,n2,H1,hh,rfl⟩;rcases m with _|m
      .rw [zed] at H1;cases H1
      rw [zed] at H1;apply d6;refine rk [4,5,6,9,11,12,14,17,20,21,199,200,201,202] [] (f3 hh c10 (f3 c15 c19 (f2 c22 c27))) fun h hh=>?_;rcases isp H1 with ⟨c33,H1⟩|⟨c33,H1⟩;rotate_left
      .skip;apply d6;refine cf (f2 hh (zAb c33)) ?_;refine xk ?_;cases H1;exact ce hh ⟨kq hh,rfl⟩
      apply d6;refine ct (f2 hh (zAa c33)) ?_;refine sk ?_;obtain ⟨s_6,H2,H1⟩:=zad H1;apply d6;refine cu [4,5,6,9,11,12,14,17,20,21,199,200,201] 10 (fun h bs=>(h 4=.ptr 1 0 3/\h 5=.cp [.int .i64 m_.node,.int .i64 m_.port,.int .i64 m_.tag,.int .i64 m_.out,.int .i64 m_.back,.int .i64 m_.first]/\h 6=.ptr 3 0 3/\h 9=.cp [.int .i64 ((gx n.links m_.out).frm),.int .i64 ((gx n.links m_.out).to),.int .i64 ((gx n.links m_.out).cap)]/\h 11=zas (gx c.tables m_.node)/\h 12=zas (gx c.tables ((gx n.links m_.out).to))/\h 14=.ptr 7 0 3/\h 17=ints ab.2/\h 20=.arr 8 23 0 (n2+1) (n2+1) ((n2+1)*23)/\h 21=.ptr 9 0 20/\h 199=zas ab.1/\h 200=.int .i64 (ab.1.length:Int)/\h 201=.int .i64 i2)/\bs=[.cells true 3 [zax n.nodes,zay n.links,zaz n.edges],.cells true 3 [.int .i64 c.version,zau c.tables,zat c.steps],.gone,.cells true 3 [.int .i64 0,.nils,.nils],.gone,.cells true 3 [.int .i64 ((gx n.links m_.back).frm),.int .i64 ((gx n.links m_.back).to),.int .i64 ((gx n.links m_.back).cap)],.gone,.cells true 3 [.int .i64 aa.1.port,.int .i64 aa.1.tag,ints aa.1.rules],.cells false ((n2+1)*23) (vecC zao s_6),.cells true 20 (ac.mask.l.map (d7 .i64)++(ac.bits.l.map (d7 .i64)))]) ?_ ?_
      .skip;apply fo;obtain ⟨g34,H2⟩:=isg H2;apply d6;refine rk [4,5,6,9,11,12,14,17,20,21,22,23,199,200,201] [] (f3 hh c10 (f3 c15 c19 (f3 c22 c27 (zah g34)))) fun h hh=>?_;apply d6;refine rk [4,5,6,9,11,12,14,17,20,21,22,23,24,199,200,201] [] (f3 hh c10 (f3 c15 c19 (f2 c22 c27))) fun h hh=>?_;refine vk 24 1 [4,5,6,9,11,12,14,17,20,21,22,23,24,199,200,201] hh fun h hh=>?_;repeat apply d6
       refine rk [4,5,6,9,11,12,14,17,20,21,22,23,24,199,200,201,207,208,209] [] (f3 hh c10 (f3 c15 c19 (f2 c22 c27))) fun h hh=>?_;obtain ⟨s_7,H3,H2⟩:=zad H2;refine cu [4,5,6,9,11,12,14,17,20,21,22,23,24,199,200,201] 12 (fun h bs=>(h 4=.ptr 1 0 3/\h 5=.cp [.int .i64 m_.node,.int .i64 m_.port,.int .i64 m_.tag,.int .i64 m_.out,.int .i64 m_.back,.int .i64 m_.first]/\h 6=.ptr 3 0 3/\h 9=.cp [.int .i64 ((gx n.links m_.out).frm),.int .i64 ((gx n.links m_.out).to),.int .i64 ((gx n.links m_.out).cap)]/\h 11=zas (gx c.tables m_.node)/\h 12=zas (gx c.tables ((gx n.links m_.out).to))/\h 14=.ptr 7 0 3/\h 17=ints ab.2/\h 20=.arr 8 23 0 n2 n2 (n2*23)/\h 21=.ptr 9 0 20/\h 22=.int .i64 i2/\h 23=.ptr 10 0 23/\h 24=.arr 11 1 0 s_7.2 s_7.2 s_7.2/\h 199=zas ab.1/\h 200=.int .i64 (ab.1.length:Int)/\h 201=.int .i64 i2)/\bs=[.cells true 3 [zax n.nodes,zay n.links,zaz n.edges],.cells true 3 [.int .i64 c.version,zau c.tables,zat c.steps],.gone,.cells true 3 [.int .i64 0,.nils,.nils],.gone,.cells true 3 [.int .i64 ((gx n.links m_.back).frm),.int .i64 ((gx n.links m_.back).to),.int .i64 ((gx n.links m_.back).cap)],.gone,.cells true 3 [.int .i64 aa.1.port,.int .i64 aa.1.tag,ints aa.1.rules],.cells false (n2*23) (vecC zao l),.cells true 20 (ac.mask.l.map (d7 .i64)++(ac.bits.l.map (d7 .i64))),.cells true 23 (d7 .i64 ((gx ab.1 i2).prio) :: ((((gx ab.1 i2).mat).mask).l.map (d7 .i64)++((((gx ab.1 i2).mat).bits).l.map (d7 .i64)++[d7 .i64 ((gx ab.1 i2).step),zbp ((gx ab.1 i2).outs)]))),.cells false s_7.2 (s_7.1.map lAlt)]) ?_ ?_
       .skip;apply fo;refine iw [4,5,6,9,11,12,14,17,20,21,22,23,24,199,200,201,207,208,209] (fun m h bs=>∃ (i3:Int) (l2:List (List Alt)) (n3:Nat),zec k ab ac i2 m i3 l2 n3=some s_7/\(h 4=.ptr 1 0 3/\h 5=.cp [.int .i64 m_.node,.int .i64 m_.port,.int .i64 m_.tag,.int .i64 m_.out,.int .i64 m_.back,.int .i64 m_.first]/\h 6=.ptr 3 0 3/\h 9=.cp [.int .i64 ((gx n.links m_.out).frm),.int .i64 ((gx n.links m_.out).to),.int .i64 ((gx n.links m_.out).cap)]/\h 11=zas (gx c.tables m_.node)/\h 12=zas (gx c.tables ((gx n.links m_.out).to))/\h 14=.ptr 7 0 3/\h 17=ints ab.2/\h 20=.arr 8 23 0 n2 n2 (n2*23)/\h 21=.ptr 9 0 20/\h 22=.int .i64 i2/\h 23=.ptr 10 0 23/\h 24=.arr 11 1 0 n3 n3 n3/\h 199=zas ab.1/\h 200=.int .i64 (ab.1.length:Int)/\h 201=.int .i64 i2/\h 207=zbp ((gx ab.1 i2).outs)/\h 208=.int .i64 (((gx ab.1 i2).outs).length:Int)/\h 209=.int .i64 i3)/\bs=[.cells true 3 [zax n.nodes,zay n.links,zaz n.edges],.cells true 3 [.int .i64 c.version,zau c.tables,zat c.steps],.gone,.cells true 3 [.int .i64 0,.nils,.nils],.gone,.cells true 3 [.int .i64 ((gx n.links m_.back).frm),.int .i64 ((gx n.links m_.back).to),.int .i64 ((gx n.links m_.back).cap)],.gone,.cells true 3 [.int .i64 aa.1.port,.int .i64 aa.1.tag,ints aa.1.rules],.cells false (n2*23) (vecC zao l),.cells true 20 (ac.mask.l.map (d7 .i64)++(ac.bits.l.map (d7 .i64))),.cells true 23 (d7 .i64 ((gx ab.1 i2).prio) :: ((((gx ab.1 i2).mat).mask).l.map (d7 .i64)++((((gx ab.1 i2).mat).bits).l.map (d7 .i64)++[d7 .i64 ((gx ab.1 i2).step),zbp ((gx ab.1 i2).outs)]))),.cells false n3 (l2.map lAlt)]) ?_ k _ _ ?_;rotate_left
        .exact ⟨0,[],0,H3,kq hh,rfl⟩
        clear hh h H3;rintro m h bs ⟨i3,l2,n3,H3,hh,rfl⟩;rcases m with _|m
        .rw [zec] at H3;cases H3
        rw [zec] at H3;apply d6;refine rk [4,5,6,9,11,12,14,17,20,21,22,23,24,199,200,201,207,208,209,210] [] (f3 hh c10 (f3 c15 c19 (f2 c22 c27))) fun h hh=>?_;rcases isp H3 with ⟨c35,H3⟩|⟨c35,H3⟩;rotate_left
        .skip;apply d6;refine cf (f2 hh (zAb c35)) ?_;refine xk ?_;cases H3;exact ce hh ⟨kq hh,rfl⟩
        apply d6;refine ct (f2 hh (zAa c35)) ?_;refine sk ?_;obtain ⟨s_8,H4,H3⟩:=zad H3;apply d6;refine cu [4,5,6,9,11,12,14,17,20,21,22,23,24,199,200,201,207,208,209] 12 (fun h bs=>(h 4=.ptr 1 0 3/\h 5=.cp [.int .i64 m_.node,.int .i64 m_.port,.int .i64 m_.tag,.int .i64 m_.out,.int .i64 m_.back,.int .i64 m_.first]/\h 6=.ptr 3 0 3/\h 9=.cp [.int .i64 ((gx n.links m_.out).frm),.int .i64 ((gx n.links m_.out).to),.int .i64 ((gx n.links m_.out).cap)]/\h 11=zas (gx c.tables m_.node)/\h 12=zas (gx c.tables ((gx n.links m_.out).to))/\h 14=.ptr 7 0 3/\h 17=ints ab.2/\h 20=.arr 8 23 0 n2 n2 (n2*23)/\h 21=.ptr 9 0 20/\h 22=.int .i64 i2/\h 23=.ptr 10 0 23/\h 24=.arr 11 1 0 (n3+1) (n3+1) (n3+1)/\h 199=zas ab.1/\h 200=.int .i64 (ab.1.length:Int)/\h 201=.int .i64 i2/\h 207=zbp ((gx ab.1 i2).outs)/\h 208=.int .i64 (((gx ab.1 i2).outs).length:Int)/\h 209=.int .i64 i3)/\bs=[.cells true 3 [zax n.nodes,zay n.links,zaz n.edges],.cells true 3 [.int .i64 c.version,zau c.tables,zat c.steps],.gone,.cells true 3 [.int .i64 0,.nils,.nils],.gone,.cells true 3 [.int .i64 ((gx n.links m_.back).frm),.int .i64 ((gx n.links m_.back).to),.int .i64 ((gx n.links m_.back).cap)],.gone,.cells true 3 [.int .i64 aa.1.port,.int .i64 aa.1.tag,ints aa.1.rules],.cells false (n2*23) (vecC zao l),.cells true 20 (ac.mask.l.map (d7 .i64)++(ac.bits.l.map (d7 .i64))),.cells true 23 (d7 .i64 ((gx ab.1 i2).prio) :: ((((gx ab.1 i2).mat).mask).l.map (d7 .i64)++((((gx ab.1 i2).mat).bits).l.map (d7 .i64)++[d7 .i64 ((gx ab.1 i2).step),zbp ((gx ab.1 i2).outs)]))),.cells false (n3+1) (s_8.map lAlt)]) ?_ ?_
        .skip;apply fo;obtain ⟨g36,H4⟩:=isg H4;apply d6;refine rk [4,5,6,9,11,12,14,17,20,21,22,23,24,26,199,200,201,207,208,209] [] (f3 hh c10 (f3 c15 c19 (f3 c22 c27 (zah g36)))) fun h hh=>?_;obtain ⟨g37,H4⟩:=isg H4;apply d6;refine rkc [4,5,6,9,11,12,14,17,20,21,22,23,24,27,199,200,201,207,208,209] [] [(.arr 12 21 0 ((gx ((gx ab.1 i2).outs) i3).length) ((gx ((gx ab.1 i2).outs) i3).length) (((gx ((gx ab.1 i2).outs) i3).length)*21),stL [.cells true 3 [zax n.nodes,zay n.links,zaz n.edges],.cells true 3 [.int .i64 c.version,zau c.tables,zat c.steps],.gone,.cells true 3 [.int .i64 0,.nils,.nils],.gone,.cells true 3 [.int .i64 ((gx n.links m_.back).frm),.int .i64 ((gx n.links m_.back).to),.int .i64 ((gx n.links m_.back).cap)],.gone,.cells true 3 [.int .i64 aa.1.port,.int .i64 aa.1.tag,ints aa.1.rules],.cells false (n2*23) (vecC zao l),.cells true 20 (ac.mask.l.map (d7 .i64)++(ac.bits.l.map (d7 .i64))),.cells true 23 (d7 .i64 ((gx ab.1 i2).prio) :: ((((gx ab.1 i2).mat).mask).l.map (d7 .i64)++((((gx ab.1 i2).mat).bits).l.map (d7 .i64)++[d7 .i64 ((gx ab.1 i2).step),zbp ((gx ab.1 i2).outs)]))),.cells false n3 (l2.map lAlt),.cells false (((gx ((gx ab.1 i2).outs) i3).length)*21) (vecC eAlt (gx ((gx ab.1 i2).outs) i3))])] (f3 hh c10 (f3 c15 c19 (f2 c22 c27))) ?_ ?_
         .exact ⟨(by have q:=sn (zxw ax hx (gx ((gx ab.1 i2).outs) i3) g37) (by simp only [zb2,idsA,idsB,idsC,el]) (by simp only [zb2,idsA,idsB,idsC,el]) [.cells true 3 [zax n.nodes,zay n.links,zaz n.edges],.cells true 3 [.int .i64 c.version,zau c.tables,zat c.steps],.gone,.cells true 3 [.int .i64 0,.nils,.nils],.gone,.cells true 3 [.int .i64 ((gx n.links m_.back).frm),.int .i64 ((gx n.links m_.back).to),.int .i64 ((gx n.links m_.back).cap)],.gone,.cells true 3 [.int .i64 aa.1.port,.int .i64 aa.1.tag,ints aa.1.rules],.cells false (n2*23) (vecC zao l),.cells true 20 (ac.mask.l.map (d7 .i64)++(ac.bits.l.map (d7 .i64))),.cells true 23 (d7 .i64 ((gx ab.1 i2).prio) :: ((((gx ab.1 i2).mat).mask).l.map (d7 .i64)++((((gx ab.1 i2).mat).bits).l.map (d7 .i64)++[d7 .i64 ((gx ab.1 i2).step),zbp ((gx ab.1 i2).outs)]))),.cells false n3 (l2.map lAlt)];(try simp only [c10,c15,c19,c22,c27] at q);exact q),trivial⟩
         clear hh h;intro h hh;repeat apply d6
         refine rk [4,5,6,9,11,12,14,17,20,21,22,23,24,27,199,200,201,207,208,209,215,216,217] [] (f3 hh c10 (f3 c15 c19 (f2 c22 c27))) fun h hh=>?_;obtain ⟨s_9,H5,H4⟩:=zad H4;refine cu [4,5,6,9,11,12,14,17,20,21,22,23,24,27,199,200,201,207,208,209] 13 (fun h bs=>(h 4=.ptr 1 0 3/\h 5=.cp [.int .i64 m_.node,.int .i64 m_.port,.int .i64 m_.tag,.int .i64 m_.out,.int .i64 m_.back,.int .i64 m_.first]/\h 6=.ptr 3 0 3/\h 9=.cp [.int .i64 ((gx n.links m_.out).frm),.int .i64 ((gx n.links m_.out).to),.int .i64 ((gx n.links m_.out).cap)]/\h 11=zas (gx c.tables m_.node)/\h 12=zas (gx c.tables ((gx n.links m_.out).to))/\h 14=.ptr 7 0 3/\h 17=ints ab.2/\h 20=.arr 8 23 0 n2 n2 (n2*23)/\h 21=.ptr 9 0 20/\h 22=.int .i64 i2/\h 23=.ptr 10 0 23/\h 24=.arr 11 1 0 n3 n3 n3/\h 27=.arr 12 21 0 ((gx ((gx ab.1 i2).outs) i3).length) ((gx ((gx ab.1 i2).outs) i3).length) (((gx ((gx ab.1 i2).outs) i3).length)*21)/\h 199=zas ab.1/\h 200=.int .i64 (ab.1.length:Int)/\h 201=.int .i64 i2/\h 207=zbp ((gx ab.1 i2).outs)/\h 208=.int .i64 (((gx ab.1 i2).outs).length:Int)/\h 209=.int .i64 i3)/\bs=[.cells true 3 [zax n.nodes,zay n.links,zaz n.edges],.cells true 3 [.int .i64 c.version,zau c.tables,zat c.steps],.gone,.cells true 3 [.int .i64 0,.nils,.nils],.gone,.cells true 3 [.int .i64 ((gx n.links m_.back).frm),.int .i64 ((gx n.links m_.back).to),.int .i64 ((gx n.links m_.back).cap)],.gone,.cells true 3 [.int .i64 aa.1.port,.int .i64 aa.1.tag,ints aa.1.rules],.cells false (n2*23) (vecC zao l),.cells true 20 (ac.mask.l.map (d7 .i64)++(ac.bits.l.map (d7 .i64))),.cells true 23 (d7 .i64 ((gx ab.1 i2).prio) :: ((((gx ab.1 i2).mat).mask).l.map (d7 .i64)++((((gx ab.1 i2).mat).bits).l.map (d7 .i64)++[d7 .i64 ((gx ab.1 i2).step),zbp ((gx ab.1 i2).outs)]))),.cells false n3 (l2.map lAlt),.cells false (((gx ((gx ab.1 i2).outs) i3).length)*21) (vecC eAlt s_9)]) ?_ ?_
         .skip;apply fo;refine iw [4,5,6,9,11,12,14,17,20,21,22,23,24,27,199,200,201,207,208,209,215,216,217] (fun m h bs=>∃ (i4:Int) (l3:List Alt),ze9 k ab ac i2 i3 m i4 l3=some s_9/\(h 4=.ptr 1 0 3/\h 5=.cp [.int .i64 m_.node,.int .i64 m_.port,.int .i64 m_.tag,.int .i64 m_.out,.int .i64 m_.back,.int .i64 m_.first]/\h 6=.ptr 3 0 3/\h 9=.cp [.int .i64 ((gx n.links m_.out).frm),.int .i64 ((gx n.links m_.out).to),.int .i64 ((gx n.links m_.out).cap)]/\h 11=zas (gx c.tables m_.node)/\h 12=zas (gx c.tables ((gx n.links m_.out).to))/\h 14=.ptr 7 0 3/\h 17=ints ab.2/\h 20=.arr 8 23 0 n2 n2 (n2*23)/\h 21=.ptr 9 0 20/\h 22=.int .i64 i2/\h 23=.ptr 10 0 23/\h 24=.arr 11 1 0 n3 n3 n3/\h 27=.arr 12 21 0 ((gx ((gx ab.1 i2).outs) i3).length) ((gx ((gx ab.1 i2).outs) i3).length) (((gx ((gx ab.1 i2).outs) i3).length)*21)/\h 199=zas ab.1/\h 200=.int .i64 (ab.1.length:Int)/\h 201=.int .i64 i2/\h 207=zbp ((gx ab.1 i2).outs)/\h 208=.int .i64 (((gx ab.1 i2).outs).length:Int)/\h 209=.int .i64 i3/\h 215=.arr 12 21 0 ((gx ((gx ab.1 i2).outs) i3).length) ((gx ((gx ab.1 i2).outs) i3).length) (((gx ((gx ab.1 i2).outs) i3).length)*21)/\h 216=.int .i64 (((gx ((gx ab.1 i2).outs) i3).length):Int)/\h 217=.int .i64 i4)/\bs=[.cells true 3 [zax n.nodes,zay n.links,zaz n.edges],.cells true 3 [.int .i64 c.version,zau c.tables,zat c.steps],.gone,.cells true 3 [.int .i64 0,.nils,.nils],.gone,.cells true 3 [.int .i64 ((gx n.links m_.back).frm),.int .i64 ((gx n.links m_.back).to),.int .i64 ((gx n.links m_.back).cap)],.gone,.cells true 3 [.int .i64 aa.1.port,.int .i64 aa.1.tag,ints aa.1.rules],.cells false (n2*23) (vecC zao l),.cells true 20 (ac.mask.l.map (d7 .i64)++(ac.bits.l.map (d7 .i64))),.cells true 23 (d7 .i64 ((gx ab.1 i2).prio) :: ((((gx ab.1 i2).mat).mask).l.map (d7 .i64)++((((gx ab.1 i2).mat).bits).l.map (d7 .i64)++[d7 .i64 ((gx ab.1 i2).step),zbp ((gx ab.1 i2).outs)]))),.cells false n3 (l2.map lAlt),.cells false (((gx ((gx ab.1 i2).outs) i3).length)*21) (vecC eAlt l3)]) ?_ k _ _ ?_;rotate_left
          .exact ⟨0,(gx ((gx ab.1 i2).outs) i3),H5,kq hh,rfl⟩
          clear hh h H5;rintro m h bs ⟨i4,l3,H5,hh,rfl⟩;rcases m with _|m
          .rw [ze9] at H5;cases H5
          rw [ze9] at H5;apply d6;refine rk [4,5,6,9,11,12,14,17,20,21,22,23,24,27,199,200,201,207,208,209,215,216,217,218] [] (f3 hh c10 (f3 c15 c19 (f2 c22 c27))) fun h hh=>?_;rcases isp H5 with ⟨c38,H5⟩|⟨c38,H5⟩;rotate_left
          .skip;apply d6;refine cf (f2 hh (zAb c38)) ?_;refine xk ?_;cases H5;exact ce hh ⟨kq hh,rfl⟩
          apply d6;refine ct (f2 hh (zAa c38)) ?_;refine sk ?_;apply d6;apply fo;obtain ⟨g39,H5⟩:=isg H5;obtain ⟨g40,H5⟩:=isg H5;apply d6;refine rk [4,5,6,9,11,12,14,17,20,21,22,23,24,27,28,29,199,200,201,207,208,209,215,216,217] [] (f3 hh c10 (f3 c15 c19 (f3 c22 c27 (f2 (ykd eAlt 21 (fun x=>zc6 x) g40) (zjd (f:=eAlt) (e:=21) (fun x=>zc6 x) l3))))) fun h hh=>?_;obtain ⟨bv,e41,H5⟩:=zad H5;refine rkc [4,5,6,9,11,12,14,17,20,21,22,23,24,27,199,200,201,207,208,209,215,216,217] [] [(ePat bv,stL [.cells true 3 [zax n.nodes,zay n.links,zaz n.edges],.cells true 3 [.int .i64 c.version,zau c.tables,zat c.steps],.gone,.cells true 3 [.int .i64 0,.nils,.nils],.gone,.cells true 3 [.int .i64 ((gx n.links m_.back).frm),.int .i64 ((gx n.links m_.back).to),.int .i64 ((gx n.links m_.back).cap)],.gone,.cells true 3 [.int .i64 aa.1.port,.int .i64 aa.1.tag,ints aa.1.rules],.cells false (n2*23) (vecC zao l),.cells true 20 (ac.mask.l.map (d7 .i64)++(ac.bits.l.map (d7 .i64))),.cells true 23 (d7 .i64 ((gx ab.1 i2).prio) :: ((((gx ab.1 i2).mat).mask).l.map (d7 .i64)++((((gx ab.1 i2).mat).bits).l.map (d7 .i64)++[d7 .i64 ((gx ab.1 i2).step),zbp ((gx ab.1 i2).outs)]))),.cells false n3 (l2.map lAlt),.cells false (((gx ((gx ab.1 i2).outs) i3).length)*21) (vecC eAlt l3),.cells true 21 (d7 .i64 ((l3.getD i4.toNat default).link) :: ((((l3.getD i4.toNat default).mod).mask).l.map (d7 .i64)++((((l3.getD i4.toNat default).mod).bits).l.map (d7 .i64))))])] (f3 hh c10 (f3 c15 c19 (f3 c22 c27 (ypw bv g40)))) ?_ ?_
          .exact ⟨ff (gq (zqw ax hx k ac ((l3.getD i4.toNat default).mod) bv e41 ) (by first|rfl|simp only [c10,c15,c19,c22,c27])),trivial⟩
          clear hh h;intro h hh;refine rk [4,5,6,9,11,12,14,17,20,21,22,23,24,27,199,200,201,207,208,209,215,216,217] [] (f3 hh c10 (f3 c15 c19 (f2 c22 c27))) fun h hh=>?_;exact rd m hh ⟨(d9.wrap (i4+1)),(l3.set i4.toNat ({ l3.getD i4.toNat default with mod:=bv })),H5,kq hh,rfl⟩
         clear hh h;rintro h bs ⟨hh,rfl⟩;obtain ⟨g42,H4⟩:=isg H4;refine nf 27 (b:=12) (e:=21) (off:=0) (len:=((gx ((gx ab.1 i2).outs) i3).length)) (cap:=((gx ((gx ab.1 i2).outs) i3).length)) (M:=(((gx ((gx ab.1 i2).outs) i3).length)*21)) (s_9.map eAlt) (kq hh) (by rfl) (by omega) (by omega) (by rw [fl];exact zim (e:=21) (fun x=>zc6 x) g42) (fun t ht=>by obtain ⟨x,_,rfl⟩:=ip.1 ht;first|rfl|exact zi7 _|exact zh5 _|exact zc6 _|exact zch _ | (rw [ek];rfl)) (by rw [ek]<;>exact g42) (by omega) ?_;rw [zhs _ _ _ (by simp only [lzA]<;>omega)];simp only [scA];refine gk [4,5,6,9,11,12,14,17,20,21,22,23,24,27,199,200,201,207,208,209] hh fun h hh=>?_;obtain ⟨g43,H4⟩:=isg H4;refine rg [] [] [.cells true 3 [zax n.nodes,zay n.links,zaz n.edges],.cells true 3 [.int .i64 c.version,zau c.tables,zat c.steps],.gone,.cells true 3 [.int .i64 0,.nils,.nils],.gone,.cells true 3 [.int .i64 ((gx n.links m_.back).frm),.int .i64 ((gx n.links m_.back).to),.int .i64 ((gx n.links m_.back).cap)],.gone,.cells true 3 [.int .i64 aa.1.port,.int .i64 aa.1.tag,ints aa.1.rules],.cells false (n2*23) (vecC zao l),.cells true 20 (ac.mask.l.map (d7 .i64)++(ac.bits.l.map (d7 .i64))),.cells true 23 (d7 .i64 ((gx ab.1 i2).prio) :: ((((gx ab.1 i2).mat).mask).l.map (d7 .i64)++((((gx ab.1 i2).mat).bits).l.map (d7 .i64)++[d7 .i64 ((gx ab.1 i2).step),zbp ((gx ab.1 i2).outs)]))),.cells false (n3+1) ((l2++[s_9]).map lAlt),.gone] (fun h=>h 4=.ptr 1 0 3/\h 5=.cp [.int .i64 m_.node,.int .i64 m_.port,.int .i64 m_.tag,.int .i64 m_.out,.int .i64 m_.back,.int .i64 m_.first]/\h 6=.ptr 3 0 3/\h 9=.cp [.int .i64 ((gx n.links m_.out).frm),.int .i64 ((gx n.links m_.out).to),.int .i64 ((gx n.links m_.out).cap)]/\h 11=zas (gx c.tables m_.node)/\h 12=zas (gx c.tables ((gx n.links m_.out).to))/\h 14=.ptr 7 0 3/\h 17=ints ab.2/\h 20=.arr 8 23 0 n2 n2 (n2*23)/\h 21=.ptr 9 0 20/\h 22=.int .i64 i2/\h 23=.ptr 10 0 23/\h 24=.arr 11 1 0 (n3+1) (n3+1) (n3+1)/\h 199=zas ab.1/\h 200=.int .i64 (ab.1.length:Int)/\h 201=.int .i64 i2/\h 207=zbp ((gx ab.1 i2).outs)/\h 208=.int .i64 (((gx ab.1 i2).outs).length:Int)/\h 209=.int .i64 i3) (f3 hh c10 (f3 c15 c19 (f3 c22 c27 (sr102 ax)))) trivial fun h hh=>?_;cases H4;exact ce hh ⟨kq hh,rfl⟩
        clear hh h;rintro h bs ⟨hh,rfl⟩;refine rk [4,5,6,9,11,12,14,17,20,21,22,23,24,199,200,201,207,208,209] [] (f3 hh c10 (f3 c15 c19 (f2 c22 c27))) fun h hh=>?_;exact rd m hh ⟨(d9.wrap (i3+1)),s_8,(n3+1),H3,kq hh,rfl⟩
       clear hh h;rintro h bs ⟨hh,rfl⟩;obtain ⟨bh,e44,H2⟩:=zad H2;obtain ⟨g45,H2⟩:=isg H2;refine nf 24 (b:=11) (e:=1) (off:=0) (len:=s_7.2) (cap:=s_7.2) (M:=s_7.2) (s_7.1.map lAlt) (kq hh) (by rfl) (by omega) (by omega) (by rw [fl,Nat.mul_one,zgb (fun _=>rfl),gc (by rw [ek];omega)]) (fun t ht=>by obtain ⟨x,_,rfl⟩:=ip.1 ht;first|rfl|exact zi7 _|exact zh5 _|exact zc6 _|exact zch _ | (rw [ek];rfl)) (by rw [ek]<;>exact g45) (by omega) ?_;rw [zhs _ _ _ (by simp only [lzA]<;>omega)];simp only [scA];refine gk [4,5,6,9,11,12,14,17,20,21,22,23,24,199,200,201] hh fun h hh=>?_;obtain ⟨g46,H2⟩:=isg H2;refine dg 12 [ePat bh] [] [] [.cells true 3 [zax n.nodes,zay n.links,zaz n.edges],.cells true 3 [.int .i64 c.version,zau c.tables,zat c.steps],.gone,.cells true 3 [.int .i64 0,.nils,.nils],.gone,.cells true 3 [.int .i64 ((gx n.links m_.back).frm),.int .i64 ((gx n.links m_.back).to),.int .i64 ((gx n.links m_.back).cap)],.gone,.cells true 3 [.int .i64 aa.1.port,.int .i64 aa.1.tag,ints aa.1.rules],.cells false ((n2+1)*23) (vecC zao (l++[(⟨0,bh,(gx ab.1 i2).step,s_7.1⟩:Rule)])),.cells true 20 (ac.mask.l.map (d7 .i64)++(ac.bits.l.map (d7 .i64))),.cells true 23 (d7 .i64 ((gx ab.1 i2).prio) :: ((((gx ab.1 i2).mat).mask).l.map (d7 .i64)++((((gx ab.1 i2).mat).bits).l.map (d7 .i64)++[d7 .i64 ((gx ab.1 i2).step),zbp ((gx ab.1 i2).outs)]))),.gone] (fun h=>h 4=.ptr 1 0 3/\h 5=.cp [.int .i64 m_.node,.int .i64 m_.port,.int .i64 m_.tag,.int .i64 m_.out,.int .i64 m_.back,.int .i64 m_.first]/\h 6=.ptr 3 0 3/\h 9=.cp [.int .i64 ((gx n.links m_.out).frm),.int .i64 ((gx n.links m_.out).to),.int .i64 ((gx n.links m_.out).cap)]/\h 11=zas (gx c.tables m_.node)/\h 12=zas (gx c.tables ((gx n.links m_.out).to))/\h 14=.ptr 7 0 3/\h 17=ints ab.2/\h 20=.arr 8 23 0 (n2+1) (n2+1) ((n2+1)*23)/\h 21=.ptr 9 0 20/\h 199=zas ab.1/\h 200=.int .i64 (ab.1.length:Int)/\h 201=.int .i64 i2) (f3 hh c10 (f3 c15 c19 (f3 c22 c27 (f3 ((show vecC zao [(⟨0,bh,(gx ab.1 i2).step,s_7.1⟩:Rule)]=(d7 .i64 ((⟨0,bh,(gx ab.1 i2).step,s_7.1⟩:Rule).prio) :: ((((⟨0,bh,(gx ab.1 i2).step,s_7.1⟩:Rule).mat).mask).l.map (d7 .i64)++((((⟨0,bh,(gx ab.1 i2).step,s_7.1⟩:Rule).mat).bits).l.map (d7 .i64)++[d7 .i64 ((⟨0,bh,(gx ab.1 i2).step,s_7.1⟩:Rule).step),zbp ((⟨0,bh,(gx ab.1 i2).step,s_7.1⟩:Rule).outs)]))) from zl7.trans rfl)) (yq7 ax) (f3 (zwz ax) (ztl ax) (f3 (z7p ax) (z7o ax) (yge ax))))))) ?_ trivial ?_
       .exact ⟨gq (zdj ax hx k (⟨m_.back,d9.wrap ((d9.wrap (m_.first+1))+i2)⟩:Spot) bh e44 ) (by first|rfl|simp only [c10,c15,c19,c22,c27]),trivial⟩
       clear hh h;intro h hh;cases H2;exact ce hh ⟨kq hh,rfl⟩
      clear hh h;rintro h bs ⟨hh,rfl⟩;refine rk [4,5,6,9,11,12,14,17,20,21,199,200,201] [] (f3 hh c10 (f3 c15 c19 (f2 c22 c27))) fun h hh=>?_;exact rd m hh ⟨(d9.wrap (i2+1)),s_6,(n2+1),H1,kq hh,rfl⟩
     clear hh h;rintro h bs ⟨hh,rfl⟩;obtain ⟨g47,H⟩:=isg H;apply d6;refine rkc [4,5,6,9,11,14,17,20,30] [] [(.arr 10 23 0 ((gx c.tables ((gx n.links m_.out).to)).length) ((gx c.tables ((gx n.links m_.out).to)).length) (((gx c.tables ((gx n.links m_.out).to)).length)*23),stL [.cells true 3 [zax n.nodes,zay n.links,zaz n.edges],.cells true 3 [.int .i64 c.version,zau c.tables,zat c.steps],.gone,.cells true 3 [.int .i64 0,.nils,.nils],.gone,.cells true 3 [.int .i64 ((gx n.links m_.back).frm),.int .i64 ((gx n.links m_.back).to),.int .i64 ((gx n.links m_.back).cap)],.gone,.cells true 3 [.int .i64 aa.1.port,.int .i64 aa.1.tag,ints aa.1.rules],.cells false (s_5.2*23) (vecC zao s_5.1),.cells true 20 (ac.mask.l.map (d7 .i64)++(ac.bits.l.map (d7 .i64))),.cells false (((gx c.tables ((gx n.links m_.out).to)).length)*23) (vecC zao (gx c.tables ((gx n.links m_.out).to)))])] (f3 hh c10 (f3 c15 c19 (f2 c22 c27))) ?_ ?_
     .exact ⟨(by have q:=sn (zxx ax hx (gx c.tables ((gx n.links m_.out).to)) g47) (by simp only [zb2,idsA,idsB,idsC,el]) (by simp only [zb2,idsA,idsB,idsC,el]) [.cells true 3 [zax n.nodes,zay n.links,zaz n.edges],.cells true 3 [.int .i64 c.version,zau c.tables,zat c.steps],.gone,.cells true 3 [.int .i64 0,.nils,.nils],.gone,.cells true 3 [.int .i64 ((gx n.links m_.back).frm),.int .i64 ((gx n.links m_.back).to),.int .i64 ((gx n.links m_.back).cap)],.gone,.cells true 3 [.int .i64 aa.1.port,.int .i64 aa.1.tag,ints aa.1.rules],.cells false (s_5.2*23) (vecC zao s_5.1),.cells true 20 (ac.mask.l.map (d7 .i64)++(ac.bits.l.map (d7 .i64)))];(try simp only [c10,c15,c19,c22,c27] at q);exact q),trivial⟩
     clear hh h;intro h hh;repeat apply d6
     refine rk [4,5,6,9,11,17,20,30,256,257,258] [] (f3 hh c10 (f3 c15 c19 (f2 c22 c27))) fun h hh=>?_;obtain ⟨s_10,H1,H⟩:=zad H;refine cu [4,5,6,9,20,30] 11 (fun h bs=>(h 4=.ptr 1 0 3/\h 5=.cp [.int .i64 m_.node,.int .i64 m_.port,.int .i64 m_.tag,.int .i64 m_.out,.int .i64 m_.back,.int .i64 m_.first]/\h 6=.ptr 3 0 3/\h 9=.cp [.int .i64 ((gx n.links m_.out).frm),.int .i64 ((gx n.links m_.out).to),.int .i64 ((gx n.links m_.out).cap)]/\h 20=.arr 8 23 0 s_5.2 s_5.2 (s_5.2*23)/\h 30=.arr 10 23 0 s_10.2 s_10.2 (s_10.2*23))/\bs=[.cells true 3 [zax n.nodes,zay n.links,zaz n.edges],.cells true 3 [.int .i64 c.version,zau c.tables,zat c.steps],.gone,.cells true 3 [.int .i64 0,.nils,.nils],.gone,.cells true 3 [.int .i64 ((gx n.links m_.back).frm),.int .i64 ((gx n.links m_.back).to),.int .i64 ((gx n.links m_.back).cap)],.gone,.cells true 3 [.int .i64 aa.1.port,.int .i64 aa.1.tag,ints aa.1.rules],.cells false (s_5.2*23) (vecC zao s_5.1),.cells true 20 (ac.mask.l.map (d7 .i64)++(ac.bits.l.map (d7 .i64))),.cells false (s_10.2*23) (vecC zao s_10.1)]) ?_ ?_
     .skip;apply fo;refine iw [4,5,6,9,11,17,20,30,256,257,258] (fun m h bs=>∃ (i5:Int) (l4:List Rule) (n4:Nat),zds k c m_ aa ab m i5 l4 n4=some s_10/\(h 4=.ptr 1 0 3/\h 5=.cp [.int .i64 m_.node,.int .i64 m_.port,.int .i64 m_.tag,.int .i64 m_.out,.int .i64 m_.back,.int .i64 m_.first]/\h 6=.ptr 3 0 3/\h 9=.cp [.int .i64 ((gx n.links m_.out).frm),.int .i64 ((gx n.links m_.out).to),.int .i64 ((gx n.links m_.out).cap)]/\h 11=zas (gx c.tables m_.node)/\h 17=ints ab.2/\h 20=.arr 8 23 0 s_5.2 s_5.2 (s_5.2*23)/\h 30=.arr 10 23 0 n4 n4 (n4*23)/\h 256=ints aa.1.rules/\h 257=.int .i64 (aa.1.rules.length:Int)/\h 258=.int .i64 i5)/\bs=[.cells true 3 [zax n.nodes,zay n.links,zaz n.edges],.cells true 3 [.int .i64 c.version,zau c.tables,zat c.steps],.gone,.cells true 3 [.int .i64 0,.nils,.nils],.gone,.cells true 3 [.int .i64 ((gx n.links m_.back).frm),.int .i64 ((gx n.links m_.back).to),.int .i64 ((gx n.links m_.back).cap)],.gone,.cells true 3 [.int .i64 aa.1.port,.int .i64 aa.1.tag,ints aa.1.rules],.cells false (s_5.2*23) (vecC zao s_5.1),.cells true 20 (ac.mask.l.map (d7 .i64)++(ac.bits.l.map (d7 .i64))),.cells false (n4*23) (vecC zao l4)]) ?_ k _ _ ?_;rotate_left
      .exact ⟨0,(gx c.tables ((gx n.links m_.out).to)),((gx c.tables ((gx n.links m_.out).to)).length),H1,kq hh,rfl⟩
      clear hh h H1;rintro m h bs ⟨i5,l4,n4,H1,hh,rfl⟩;rcases m with _|m
      .rw [zds] at H1;cases H1
      rw [zds] at H1;apply d6;refine rk [4,5,6,9,11,17,20,30,256,257,258,259] [] (f3 hh c10 (f3 c15 c19 (f2 c22 c27))) fun h hh=>?_;rcases isp H1 with ⟨c48,H1⟩|⟨c48,H1⟩;rotate_left
      .skip;apply d6;refine cf (f2 hh (zAb c48)) ?_;refine xk ?_;cases H1;exact ce hh ⟨kq hh,rfl⟩
      apply d6;refine ct (f2 hh (zAa c48)) ?_;refine sk ?_;apply d6;apply fo;obtain ⟨g49,H1⟩:=isg H1;apply d6;refine rk [4,5,6,9,11,17,20,30,31,32,256,257,258] [] (f3 hh c10 (f3 c15 c19 (f3 c22 c27 (zah g49)))) fun h hh=>?_;obtain ⟨g50,H1⟩:=isg H1;apply d6;refine rk [4,5,6,9,11,17,20,30,31,33,256,257,258] [] (f3 hh c10 (f3 c15 c19 (f3 c22 c27 (f3 (zah g50) (yq7 ax) (f2 (z7p ax) (z7o ax)))))) fun h hh=>?_;obtain ⟨g51,H1⟩:=isg H1;obtain ⟨g52,H1⟩:=isg H1;apply d6;refine ds 7 [(271,none),(275,some 11)] [4,5,6,9,11,17,20,30,31,33,256,257,258] [] [] [] (f3 hh c10 (f3 c15 c19 (f3 c22 c27 (f3 (setAt (k:=.i64) (off:=11) (L:=(d7 .i64 0 :: ((((gx (gx c.tables m_.node) (gx aa.1.rules i5)).mat).mask).l.map (d7 .i64)++((((gx (gx c.tables m_.node) (gx aa.1.rules i5)).mat).bits).l.map (d7 .i64)++[d7 .i64 (-1),T.nils])))) (r:=[.int .i64 (-1),.nils]) (L2:=(d7 .i64 0 :: ((((gx (gx c.tables m_.node) (gx aa.1.rules i5)).mat).mask).l.map (d7 .i64)++(((((gx (gx c.tables m_.node) (gx aa.1.rules i5)).mat).bits).set 0 m_.out).l.map (d7 .i64)++[d7 .i64 (-1),T.nils])))) (p:=(d7 .i64 0 :: ((((gx (gx c.tables m_.node) (gx aa.1.rules i5)).mat).mask).l.map (d7 .i64)))) (((gx (gx c.tables m_.node) (gx aa.1.rules i5)).mat).bits) m_.out g51) (setAt (k:=.i64) (off:=11) (L:=(d7 .i64 0 :: ((((gx (gx c.tables m_.node) (gx aa.1.rules i5)).mat).mask).l.map (d7 .i64)++(((((gx (gx c.tables m_.node) (gx aa.1.rules i5)).mat).bits).set 0 m_.out).l.map (d7 .i64)++[d7 .i64 (-1),T.nils])))) (r:=[.int .i64 (-1),.nils]) (L2:=(d7 .i64 0 :: ((((gx (gx c.tables m_.node) (gx aa.1.rules i5)).mat).mask).l.map (d7 .i64)++((((((gx (gx c.tables m_.node) (gx aa.1.rules i5)).mat).bits).set 0 m_.out).set 9 m_.first).l.map (d7 .i64)++[d7 .i64 (-1),T.nils])))) (p:=(d7 .i64 0 :: ((((gx (gx c.tables m_.node) (gx aa.1.rules i5)).mat).mask).l.map (d7 .i64)))) ((((gx (gx c.tables m_.node) (gx aa.1.rules i5)).mat).bits).set 0 m_.out) m_.first g52) (f2 (ztm ax) (ztl ax)))))) trivial trivial fun h hh=>?_;obtain ⟨g53,H1⟩:=isg H1;repeat apply d6
      refine rk [4,5,6,9,11,17,20,30,31,33,256,257,258,283] [] (f3 hh c10 (f3 c15 c19 (f3 c22 c27 (zah g53)))) fun h hh=>?_;rcases isp H1 with ⟨c54,H1⟩|⟨c54,H1⟩;rotate_left
      .skip;refine cf (f2 hh (zAb c54)) ?_;refine sk ?_;refine nz 11 22 1 ?_;obtain ⟨g57,H1⟩:=isg H1;refine rg [] [] [.cells true 3 [zax n.nodes,zay n.links,zaz n.edges],.cells true 3 [.int .i64 c.version,zau c.tables,zat c.steps],.gone,.cells true 3 [.int .i64 0,.nils,.nils],.gone,.cells true 3 [.int .i64 ((gx n.links m_.back).frm),.int .i64 ((gx n.links m_.back).to),.int .i64 ((gx n.links m_.back).cap)],.gone,.cells true 3 [.int .i64 aa.1.port,.int .i64 aa.1.tag,ints aa.1.rules],.cells false (s_5.2*23) (vecC zao s_5.1),.cells true 20 (ac.mask.l.map (d7 .i64)++(ac.bits.l.map (d7 .i64))),.cells false ((n4+1)*23) (vecC zao (l4++[(⟨0,(⟨((gx (gx c.tables m_.node) (gx aa.1.rules i5)).mat).mask,((((gx (gx c.tables m_.node) (gx aa.1.rules i5)).mat).bits).set 0 m_.out).set 9 m_.first⟩:Pat),(-1),[]⟩:Rule)])),.cells true 23 (d7 .i64 0 :: ((((gx (gx c.tables m_.node) (gx aa.1.rules i5)).mat).mask).l.map (d7 .i64)++((((((gx (gx c.tables m_.node) (gx aa.1.rules i5)).mat).bits).set 0 m_.out).set 9 m_.first).l.map (d7 .i64)++[d7 .i64 (-1),zbp []])))] (fun h=>h 4=.ptr 1 0 3/\h 5=.cp [.int .i64 m_.node,.int .i64 m_.port,.int .i64 m_.tag,.int .i64 m_.out,.int .i64 m_.back,.int .i64 m_.first]/\h 6=.ptr 3 0 3/\h 9=.cp [.int .i64 ((gx n.links m_.out).frm),.int .i64 ((gx n.links m_.out).to),.int .i64 ((gx n.links m_.out).cap)]/\h 11=zas (gx c.tables m_.node)/\h 17=ints ab.2/\h 20=.arr 8 23 0 s_5.2 s_5.2 (s_5.2*23)/\h 30=.arr 10 23 0 (n4+1) (n4+1) ((n4+1)*23)/\h 256=ints aa.1.rules/\h 257=.int .i64 (aa.1.rules.length:Int)/\h 258=.int .i64 i5) (f3 hh c10 (f3 c15 c19 (f3 c22 c27 ((show vecC zao [(⟨0,(⟨((gx (gx c.tables m_.node) (gx aa.1.rules i5)).mat).mask,((((gx (gx c.tables m_.node) (gx aa.1.rules i5)).mat).bits).set 0 m_.out).set 9 m_.first⟩:Pat),(-1),[]⟩:Rule)]=(d7 .i64 ((⟨0,(⟨((gx (gx c.tables m_.node) (gx aa.1.rules i5)).mat).mask,((((gx (gx c.tables m_.node) (gx aa.1.rules i5)).mat).bits).set 0 m_.out).set 9 m_.first⟩:Pat),(-1),[]⟩:Rule).prio) :: ((((⟨0,(⟨((gx (gx c.tables m_.node) (gx aa.1.rules i5)).mat).mask,((((gx (gx c.tables m_.node) (gx aa.1.rules i5)).mat).bits).set 0 m_.out).set 9 m_.first⟩:Pat),(-1),[]⟩:Rule).mat).mask).l.map (d7 .i64)++((((⟨0,(⟨((gx (gx c.tables m_.node) (gx aa.1.rules i5)).mat).mask,((((gx (gx c.tables m_.node) (gx aa.1.rules i5)).mat).bits).set 0 m_.out).set 9 m_.first⟩:Pat),(-1),[]⟩:Rule).mat).bits).l.map (d7 .i64)++[d7 .i64 ((⟨0,(⟨((gx (gx c.tables m_.node) (gx aa.1.rules i5)).mat).mask,((((gx (gx c.tables m_.node) (gx aa.1.rules i5)).mat).bits).set 0 m_.out).set 9 m_.first⟩:Pat),(-1),[]⟩:Rule).step),zbp ((⟨0,(⟨((gx (gx c.tables m_.node) (gx aa.1.rules i5)).mat).mask,((((gx (gx c.tables m_.node) (gx aa.1.rules i5)).mat).bits).set 0 m_.out).set 9 m_.first⟩:Pat),(-1),[]⟩:Rule).outs)]))) from zl7.trans rfl))))) trivial fun h hh=>?_;refine rk [4,5,6,9,11,17,20,30,256,257,258] [] (f3 hh c10 (f3 c15 c19 (f2 c22 c27))) fun h hh=>?_;exact rd m hh ⟨(d9.wrap (i5+1)),(l4++[(⟨0,(⟨((gx (gx c.tables m_.node) (gx aa.1.rules i5)).mat).mask,((((gx (gx c.tables m_.node) (gx aa.1.rules i5)).mat).bits).set 0 m_.out).set 9 m_.first⟩:Pat),(-1),[]⟩:Rule)]),(n4+1),H1,kq hh,rfl⟩
      refine ct (f2 hh (zAa c54)) ?_;obtain ⟨av,e55,H1⟩:=zad H1;refine dk 9 [4,5,6,9,11,17,20,30,33,256,257,258] [] [] [(zbp av,stL [.cells true 3 [zax n.nodes,zay n.links,zaz n.edges],.cells true 3 [.int .i64 c.version,zau c.tables,zat c.steps],.gone,.cells true 3 [.int .i64 0,.nils,.nils],.gone,.cells true 3 [.int .i64 ((gx n.links m_.back).frm),.int .i64 ((gx n.links m_.back).to),.int .i64 ((gx n.links m_.back).cap)],.gone,.cells true 3 [.int .i64 aa.1.port,.int .i64 aa.1.tag,ints aa.1.rules],.cells false (s_5.2*23) (vecC zao s_5.1),.cells true 20 (ac.mask.l.map (d7 .i64)++(ac.bits.l.map (d7 .i64))),.cells false (n4*23) (vecC zao l4),.cells true 23 (d7 .i64 0 :: ((((gx (gx c.tables m_.node) (gx aa.1.rules i5)).mat).mask).l.map (d7 .i64)++((((((gx (gx c.tables m_.node) (gx aa.1.rules i5)).mat).bits).set 0 m_.out).set 9 m_.first).l.map (d7 .i64)++[d7 .i64 (-1),T.nils])))])] (f3 hh c10 (f3 c15 c19 (f3 c22 c27 (f3 (zah g53) (zwz ax) (ztl ax))))) trivial ?_ ?_
      .exact ⟨ff (gq (zsz ax hx k m_.back (d9.wrap ((d9.wrap (m_.first+1))+(gx ab.2 i5))) av e55 ) (by first|rfl|simp only [c10,c15,c19,c22,c27])),trivial⟩
      clear hh h;intro h hh;obtain ⟨g56,H1⟩:=isg H1;refine rg [] [] [.cells true 3 [zax n.nodes,zay n.links,zaz n.edges],.cells true 3 [.int .i64 c.version,zau c.tables,zat c.steps],.gone,.cells true 3 [.int .i64 0,.nils,.nils],.gone,.cells true 3 [.int .i64 ((gx n.links m_.back).frm),.int .i64 ((gx n.links m_.back).to),.int .i64 ((gx n.links m_.back).cap)],.gone,.cells true 3 [.int .i64 aa.1.port,.int .i64 aa.1.tag,ints aa.1.rules],.cells false (s_5.2*23) (vecC zao s_5.1),.cells true 20 (ac.mask.l.map (d7 .i64)++(ac.bits.l.map (d7 .i64))),.cells false ((n4+1)*23) (vecC zao (l4++[(⟨0,(⟨((gx (gx c.tables m_.node) (gx aa.1.rules i5)).mat).mask,((((gx (gx c.tables m_.node) (gx aa.1.rules i5)).mat).bits).set 0 m_.out).set 9 m_.first⟩:Pat),(-1),av⟩:Rule)])),.cells true 23 (d7 .i64 0 :: ((((gx (gx c.tables m_.node) (gx aa.1.rules i5)).mat).mask).l.map (d7 .i64)++((((((gx (gx c.tables m_.node) (gx aa.1.rules i5)).mat).bits).set 0 m_.out).set 9 m_.first).l.map (d7 .i64)++[d7 .i64 (-1),zbp av])))] (fun h=>h 4=.ptr 1 0 3/\h 5=.cp [.int .i64 m_.node,.int .i64 m_.port,.int .i64 m_.tag,.int .i64 m_.out,.int .i64 m_.back,.int .i64 m_.first]/\h 6=.ptr 3 0 3/\h 9=.cp [.int .i64 ((gx n.links m_.out).frm),.int .i64 ((gx n.links m_.out).to),.int .i64 ((gx n.links m_.out).cap)]/\h 11=zas (gx c.tables m_.node)/\h 17=ints ab.2/\h 20=.arr 8 23 0 s_5.2 s_5.2 (s_5.2*23)/\h 30=.arr 10 23 0 (n4+1) (n4+1) ((n4+1)*23)/\h 256=ints aa.1.rules/\h 257=.int .i64 (aa.1.rules.length:Int)/\h 258=.int .i64 i5) (f3 hh c10 (f3 c15 c19 (f3 c22 c27 ((show vecC zao [(⟨0,(⟨((gx (gx c.tables m_.node) (gx aa.1.rules i5)).mat).mask,((((gx (gx c.tables m_.node) (gx aa.1.rules i5)).mat).bits).set 0 m_.out).set 9 m_.first⟩:Pat),(-1),av⟩:Rule)]=(d7 .i64 ((⟨0,(⟨((gx (gx c.tables m_.node) (gx aa.1.rules i5)).mat).mask,((((gx (gx c.tables m_.node) (gx aa.1.rules i5)).mat).bits).set 0 m_.out).set 9 m_.first⟩:Pat),(-1),av⟩:Rule).prio) :: ((((⟨0,(⟨((gx (gx c.tables m_.node) (gx aa.1.rules i5)).mat).mask,((((gx (gx c.tables m_.node) (gx aa.1.rules i5)).mat).bits).set 0 m_.out).set 9 m_.first⟩:Pat),(-1),av⟩:Rule).mat).mask).l.map (d7 .i64)++((((⟨0,(⟨((gx (gx c.tables m_.node) (gx aa.1.rules i5)).mat).mask,((((gx (gx c.tables m_.node) (gx aa.1.rules i5)).mat).bits).set 0 m_.out).set 9 m_.first⟩:Pat),(-1),av⟩:Rule).mat).bits).l.map (d7 .i64)++[d7 .i64 ((⟨0,(⟨((gx (gx c.tables m_.node) (gx aa.1.rules i5)).mat).mask,((((gx (gx c.tables m_.node) (gx aa.1.rules i5)).mat).bits).set 0 m_.out).set 9 m_.first⟩:Pat),(-1),av⟩:Rule).step),zbp ((⟨0,(⟨((gx (gx c.tables m_.node) (gx aa.1.rules i5)).mat).mask,((((gx (gx c.tables m_.node) (gx aa.1.rules i5)).mat).bits).set 0 m_.out).set 9 m_.first⟩:Pat),(-1),av⟩:Rule).outs)]))) from zl7.trans rfl))))) trivial fun h hh=>?_;refine rk [4,5,6,9,11,17,20,30,256,257,258] [] (f3 hh c10 (f3 c15 c19 (f2 c22 c27))) fun h hh=>?_;exact rd m hh ⟨(d9.wrap (i5+1)),(l4++[(⟨0,(⟨((gx (gx c.tables m_.node) (gx aa.1.rules i5)).mat).mask,((((gx (gx c.tables m_.node) (gx aa.1.rules i5)).mat).bits).set 0 m_.out).set 9 m_.first⟩:Pat),(-1),av⟩:Rule)]),(n4+1),H1,kq hh,rfl⟩
     clear hh h;rintro h bs ⟨hh,rfl⟩;obtain ⟨s_11,H1,H⟩:=zad H;repeat apply d6
     refine cu [4,5,6,9,20,30,308] 11 (fun h bs=>(h 4=.ptr 1 0 3/\h 5=.cp [.int .i64 m_.node,.int .i64 m_.port,.int .i64 m_.tag,.int .i64 m_.out,.int .i64 m_.back,.int .i64 m_.first]/\h 6=.ptr 3 0 3/\h 9=.cp [.int .i64 ((gx n.links m_.out).frm),.int .i64 ((gx n.links m_.out).to),.int .i64 ((gx n.links m_.out).cap)]/\h 20=.arr 8 23 0 s_5.2 s_5.2 (s_5.2*23)/\h 30=.arr 10 23 0 s_10.2 s_10.2 (s_10.2*23)/\h 308=.bool s_11)/\bs=[.cells true 3 [zax n.nodes,zay n.links,zaz n.edges],.cells true 3 [.int .i64 c.version,zau c.tables,zat c.steps],.gone,.cells true 3 [.int .i64 0,.nils,.nils],.gone,.cells true 3 [.int .i64 ((gx n.links m_.back).frm),.int .i64 ((gx n.links m_.back).to),.int .i64 ((gx n.links m_.back).cap)],.gone,.cells true 3 [.int .i64 aa.1.port,.int .i64 aa.1.tag,ints aa.1.rules],.cells false (s_5.2*23) (vecC zao s_5.1),.cells true 20 (ac.mask.l.map (d7 .i64)++(ac.bits.l.map (d7 .i64))),.cells false (s_10.2*23) (vecC zao s_10.1)]) ?_ ?_
     .skip;rcases isp H1 with ⟨c58,H1⟩|⟨c58,H1⟩;rotate_left
      .skip;refine rk [4,5,6,9,20,30,308] [] (f3 hh (zAb c58) (f3 c10 c15 (f3 c19 c22 c27))) fun h hh=>?_;cases H1;exact ce hh ⟨kq hh,rfl⟩
      refine rk [4,5,6,9,20,30,308] [] (f3 hh (zAa c58) (f3 c10 c15 (f3 c19 c22 c27))) fun h hh=>?_;cases H1;exact ce hh ⟨kq hh,rfl⟩
     clear hh h;rintro h bs ⟨hh,rfl⟩;rcases isb H with ⟨c59,H⟩|⟨c59,H⟩;rotate_left
     .skip;refine cf (f2 hh c59) ?_;refine sk ?_;obtain ⟨g60,H⟩:=isg H;apply d6;refine rkc [4,5,6,9,20,30] [] [(.arr 11 1 0 c.tables.length c.tables.length c.tables.length,stL [.cells true 3 [zax n.nodes,zay n.links,zaz n.edges],.cells true 3 [.int .i64 c.version,zau c.tables,zat c.steps],.gone,.cells true 3 [.int .i64 0,.nils,.nils],.gone,.cells true 3 [.int .i64 ((gx n.links m_.back).frm),.int .i64 ((gx n.links m_.back).to),.int .i64 ((gx n.links m_.back).cap)],.gone,.cells true 3 [.int .i64 aa.1.port,.int .i64 aa.1.tag,ints aa.1.rules],.cells false (s_5.2*23) (vecC zao s_5.1),.cells true 20 (ac.mask.l.map (d7 .i64)++(ac.bits.l.map (d7 .i64))),.cells false (s_10.2*23) (vecC zao s_10.1),.cells false c.tables.length (c.tables.map zas)])] (f3 hh c10 (f3 c15 c19 (f3 c22 c27 c59))) ?_ ?_
      .exact ⟨(by have q:=sn (z1o ax hx c.tables g60) (by simp only [zb2,idsA,idsB,idsC,el]) (by simp only [zb2,idsA,idsB,idsC,el]) [.cells true 3 [zax n.nodes,zay n.links,zaz n.edges],.cells true 3 [.int .i64 c.version,zau c.tables,zat c.steps],.gone,.cells true 3 [.int .i64 0,.nils,.nils],.gone,.cells true 3 [.int .i64 ((gx n.links m_.back).frm),.int .i64 ((gx n.links m_.back).to),.int .i64 ((gx n.links m_.back).cap)],.gone,.cells true 3 [.int .i64 aa.1.port,.int .i64 aa.1.tag,ints aa.1.rules],.cells false (s_5.2*23) (vecC zao s_5.1),.cells true 20 (ac.mask.l.map (d7 .i64)++(ac.bits.l.map (d7 .i64))),.cells false (s_10.2*23) (vecC zao s_10.1)];(try simp only [c10,c15,c19,c22,c27,c59] at q);exact q),trivial⟩
      clear hh h;intro h hh;refine zk 4 1 3 true [.int .i64 c.version,.arr 11 1 0 c.tables.length c.tables.length c.tables.length,zat c.steps] [4,5,6,9,20,30] hh fun h hh=>?_;obtain ⟨rb4,e61,H⟩:=zad H;obtain ⟨rb5,e62,H⟩:=zad H;obtain ⟨g63,H⟩:=isg H;obtain ⟨g64,H⟩:=isg H;apply d6;refine dc 9 [4,5,9] [4,6] [] [] [(zas rb4,stL [.cells true 3 [zax n.nodes,zay n.links,zaz n.edges],.gone,.gone,.cells true 3 [.int .i64 0,.nils,.nils],.gone,.cells true 3 [.int .i64 ((gx n.links m_.back).frm),.int .i64 ((gx n.links m_.back).to),.int .i64 ((gx n.links m_.back).cap)],.gone,.cells true 3 [.int .i64 aa.1.port,.int .i64 aa.1.tag,ints aa.1.rules],.gone,.cells true 20 (ac.mask.l.map (d7 .i64)++(ac.bits.l.map (d7 .i64))),.cells false (s_10.2*23) (vecC zao s_10.1),.cells false c.tables.length (c.tables.map zas)]),(zas rb5,stL [.cells true 3 [zax n.nodes,zay n.links,zaz n.edges],.gone,.gone,.cells true 3 [.int .i64 0,.nils,.nils],.gone,.cells true 3 [.int .i64 ((gx n.links m_.back).frm),.int .i64 ((gx n.links m_.back).to),.int .i64 ((gx n.links m_.back).cap)],.gone,.cells true 3 [.int .i64 aa.1.port,.int .i64 aa.1.tag,ints aa.1.rules],.gone,.cells true 20 (ac.mask.l.map (d7 .i64)++(ac.bits.l.map (d7 .i64))),.gone,.cells false c.tables.length (c.tables.map zas)])] (f3 hh c10 (f3 c15 c19 (f3 c22 c27 (f3 c59 ((show spl (c.tables.map zas) m_.node.toNat [T.lst 23 (rb4.map zao)]=_ from z7a (v:=rb4) g63)) (f2 ((show spl ((c.tables.set m_.node.toNat rb4).map zas) ((gx n.links m_.out).to).toNat [T.lst 23 (rb5.map zao)]=_ from z7a (v:=rb5) g64)) (zpo ax)))))) trivial ?_ ?_
      .exact ⟨ca [8] (zkl ax hx k s_5.2 s_5.1 rb4 e61),ca [10] (zkl ax hx k s_10.2 s_10.1 rb5 e62),trivial⟩
      clear hh h;intro h hh;apply d6;refine rk [6,7] [] (f3 hh c10 (f3 c15 c19 (f3 c22 c27 c59))) fun h hh=>?_;obtain ⟨g65,H⟩:=isg H;refine fz (e:=1) (len:=c.tables.length) (M:=c.tables.length) (l:=(((c.tables.set m_.node.toNat rb4).set ((gx n.links m_.out).to).toNat rb5).map zas)) 3 11 1 (((c.tables.set m_.node.toNat rb4).set ((gx n.links m_.out).to).toNat rb5).map zas) (by rw [fl,Nat.mul_one,zgb (fun _=>rfl),gc (by rw [ek];omega)]) (fun t ht=>by obtain ⟨x,_,rfl⟩:=ip.1 ht;first|rfl|exact zi7 _|exact zh5 _|exact zc6 _|exact zch _ | (rw [ek];rfl)) (by rw [ek]<;>exact g65) ?_;cases H;exact rtc hh
     refine ct (f2 hh c59) ?_;apply d6;refine rk [6,7] [] (f3 hh c10 (f3 c15 c19 (f3 c22 c27 (f2 c59 (bt30 ax))))) fun h hh=>?_;refine nz 3 1 1 ?_;refine nz 3 2 6 ?_;cases H;exact rtc hh
    refine ct (f2 hh c27) ?_;apply d6;refine rk [6,7] [] (f3 hh c10 (f3 c15 c19 (f3 c22 c27 (bt30 ax)))) fun h hh=>?_;refine nz 3 1 1 ?_;refine nz 3 2 6 ?_;cases H;exact rtc hh
   refine ct (f2 hh c22) ?_;apply d6;refine rk [6,7] [] (f3 hh c10 (f3 c15 c19 (f2 c22 (bt30 ax)))) fun h hh=>?_;refine nz 3 1 1 ?_;refine nz 3 2 6 ?_;cases H;exact rtc hh
  refine ct (f2 hh c15) ?_;apply d6;refine rk [6,7] [] (f3 hh c10 (f2 c15 (bt30 ax))) fun h hh=>?_;refine nz 3 1 1 ?_;refine nz 3 2 6 ?_;cases H;exact rtc hh
 refine ct (f2 hh c10) ?_;apply d6;refine rk [6,7] [] (f3 hh c10 (bt30 ax)) fun h hh=>?_;refine nz 3 1 1 ?_;refine nz 3 2 6 ?_;cases H;exact rtc hh
def zht (k:Nat) (t:List Rule) (port:Int) (tag:Int):Nat->Int->Option (Bool ⊕ Unit)
 |0,_=>none
 |m+1,i=>(if i<(t.length:Int) then (if 0<=i/\i<(t.length:Int) then ((zmc k port tag).bind fun rAt=>((ze8 k ((gx t i).mat) rAt).bind fun be=>(if be=true then some (.inl true) else zht k t port tag m (d9.wrap (i+1))))) else none) else some (.inr ()))
def zjn (k:Nat) (t:List Rule) (port:Int) (tag:Int):Option Bool:=((zht k t port tag k 0:Option (Bool ⊕ Unit)).bind fun o=>i9 (fun r=>some r) (fun s_=>some false) o)
def zlb (k:Nat) (a:Rule) (b:Rule):Option Bool:=((zhv k (⟨0,(⟨zA 10,zA 10⟩:Pat),a.step,a.outs⟩:Rule) (⟨0,(⟨zA 10,zA 10⟩:Pat),b.step,b.outs⟩:Rule)).bind fun br=>some br)
theorem z1a (ax:Axs) (hx:NoAx ax) (k:Nat) (a:Rule) (b:Rule) (v:Bool) (H:zlb k a b=some v):Pure Tryz.prog (EE ax) [] 100 [zao a,zao b] (.bool v):=by
 rw [zlb] at H;refine en [.tmp 4] 14 [0,1] (hx.no _ (by decide)) (fn100 ax) ?_;intro h hh;apply d6;refine rk [2,3] [] hh fun h hh=>?_;apply d6;refine rk [2,3] [] hh fun h hh=>?_;apply d6;refine rk [2,3] [] hh fun h hh=>?_;apply d6;refine rk [2,3] [] hh fun h hh=>?_;apply d6;refine rk [2,3] [] hh fun h hh=>?_;obtain ⟨br,e1,H⟩:=zad H;apply d6;refine rkp [4] [] [.bool br] hh ?_ ?_
 .exact ⟨ff ((ztv ax hx k (⟨0,(⟨zA 10,zA 10⟩:Pat),a.step,a.outs⟩:Rule) (⟨0,(⟨zA 10,zA 10⟩:Pat),b.step,b.outs⟩:Rule) br e1 ).call _),trivial⟩
 clear hh h;intro h hh;cases H;exact rt hh
def zd8 (k:Nat) (l:List Rule) (r:Rule):Nat->Int->Option (Int ⊕ Unit)
 |0,_=>none
 |m+1,i=>(if i<(l.length:Int) then (if 0<=i/\i<(l.length:Int) then ((zlb k (gx l i) r).bind fun aq=>(if aq=true then some (.inl i) else zd8 k l r m (d9.wrap (i+1)))) else none) else some (.inr ()))
def zhd (k:Nat) (l:List Rule) (r:Rule):Option Int:=((zd8 k l r k 0:Option (Int ⊕ Unit)).bind fun o=>i9 (fun r=>some r) (fun s_=>some (l.length:Int)) o)
theorem z09 (ax:Axs) (hx:NoAx ax) (k:Nat) (l:List Rule) (r:Rule) (v:Int) (H:zhd k l r=some v):Pure Tryz.prog (EE ax) [] 74 [zas l,zao r] (.int .i64 v):=by
 rw [zhd] at H;refine en [.tmp 4] 23 [0,1] (hx.no _ (by decide)) (fn74 ax) ?_;intro h hh;apply d6;refine rk [0,3] [] hh fun h hh=>?_;repeat apply d6
 refine rk [0,3,5] [] hh fun h hh=>?_;obtain ⟨o,H1,H⟩:=zad H;refine cu [0] 1 (fun h bs=>∃ s_:Unit,o=.inr s_/\(h 0=zas l)/\bs=[.cells true 23 (d7 .i64 r.prio :: (r.mat.mask.l.map (d7 .i64)++(r.mat.bits.l.map (d7 .i64)++[d7 .i64 r.step,zbp r.outs])))]) ?_ ?_
 .skip;apply fo;refine iw [0,3,5] (fun m h bs=>∃ (i:Int),zd8 k l r m i=some o/\(h 0=zas l/\h 3=.ptr 0 0 23/\h 5=.int .i64 i)/\bs=[.cells true 23 (d7 .i64 r.prio :: (r.mat.mask.l.map (d7 .i64)++(r.mat.bits.l.map (d7 .i64)++[d7 .i64 r.step,zbp r.outs])))]) ?_ k _ _ ?_;rotate_left
  .exact ⟨0,H1,kq hh,rfl⟩
  clear hh h H1;rintro m h bs ⟨i,H1,hh,rfl⟩;rcases m with _|m
  .rw [zd8] at H1;cases H1
  rw [zd8] at H1;repeat apply d6
  refine rk [0,3,5,10] [] hh fun h hh=>?_;rcases isp H1 with ⟨c1,H1⟩|⟨c1,H1⟩;rotate_left
  .skip;refine cf (f2 hh (zAb c1)) ?_;refine xk ?_;cases H1;exact ce hh ⟨_,rfl,kq hh,rfl⟩
  refine ct (f2 hh (zAa c1)) ?_;refine sk ?_;apply d6;apply fo;obtain ⟨g2,H1⟩:=isg H1;obtain ⟨aq,e3,H1⟩:=zad H1;apply d6;refine dk 5 [0,3,5,6] [] [] [(.bool aq,stL [.cells true 23 (d7 .i64 r.prio :: (r.mat.mask.l.map (d7 .i64)++(r.mat.bits.l.map (d7 .i64)++[d7 .i64 r.step,zbp r.outs])))])] (f2 hh (zah g2)) trivial ?_ ?_
  .exact ⟨ff ((z1a ax hx k (gx l i) r aq e3 ).call _),trivial⟩
  clear hh h;intro h hh;apply d6;refine rk [0,3,5,19] [] hh fun h hh=>?_;rcases isb H1 with ⟨c4,H1⟩|⟨c4,H1⟩;rotate_left
  .skip;refine cf (f2 hh c4) ?_;refine sk ?_;refine rk [0,3,5] [] (f2 hh c4) fun h hh=>?_;exact rd m hh ⟨(d9.wrap (i+1)),H1,kq hh,rfl⟩
  refine ct (f2 hh c4) ?_;apply d6;refine rk [4] [] (f2 hh c4) fun h hh=>?_;cases H1;obtain rfl:=sinl H;exact rt hh
 clear hh h;rintro h bs ⟨s_,rfl,hh,rfl⟩;replace H:=sinr H;apply d6;refine rk [4] [] hh fun h hh=>?_;cases H;exact rt hh
def zb7 (k:Nat) (t:List Rule) (bunch:List Int):Nat->Int->(List Rule)->Nat->Option (List Rule×Nat)
 |0,_,_,_=>none
 |m+1,i,l,n=>(if i<(bunch.length:Int) then (if 0<=i/\i<(bunch.length:Int) then (if (0:Int)<=(gx bunch i)/\(gx bunch i)<(t.length:Int) then ((zlf k (⟨(gx t (gx bunch i)).prio,((gx t (gx bunch i)).mat),(gx t (gx bunch i)).step,(gx t (gx bunch i)).outs⟩:Rule)).bind fun bg=>(if bg=true then zb7 k t bunch m (d9.wrap (i+1)) l n else (if l.length=n then ((zhd k l (⟨(gx t (gx bunch i)).prio,((gx t (gx bunch i)).mat),(gx t (gx bunch i)).step,(gx t (gx bunch i)).outs⟩:Rule)).bind fun cd=>(if cd=(n:Int) then (if (n+1)*201<=1000000000 then zb7 k t bunch m (d9.wrap (i+1)) (l++[(⟨(gx t (gx bunch i)).prio,((gx t (gx bunch i)).mat),(gx t (gx bunch i)).step,(gx t (gx bunch i)).outs⟩:Rule)]) (n+1) else none) else zb7 k t bunch m (d9.wrap (i+1)) l n)) else none))) else none) else none) else some (l,n))
def zhg (k:Nat) (t:List Rule) (bunch:List Int):Option (List Rule):=((zb7 k t bunch k 0 [] 0:Option (List Rule×Nat)).bind fun s_=>(if s_.1.length=s_.2 then some s_.1 else none))
theorem zuz (ax:Axs) (hx:NoAx ax) (k:Nat) (t:List Rule) (bunch:List Int) (v:List Rule) (H:zhg k t bunch=some v):Pure Tryz.prog (EE ax) [] 29 [zas t,ints bunch] (zas v):=by
 rw [zhg] at H;refine en [.tmp 4] 39 [0,1] (hx.no _ (by decide)) (fn29 ax) ?_;intro h hh;apply d6;refine rk [0,1] [] hh fun h hh=>?_;apply d6;refine rk [0,1,5] [] hh fun h hh=>?_;refine vk 5 23 [0,1,5] hh fun h hh=>?_;repeat apply d6
 refine rk [0,1,5,6] [] hh fun h hh=>?_;obtain ⟨s_,H1,H⟩:=zad H;refine cu [5] 1 (fun h bs=>(h 5=.arr 0 23 0 s_.2 s_.2 (s_.2*23))/\bs=[.cells false (s_.2*23) (vecC zao s_.1)]) ?_ ?_
 .skip;apply fo;refine iw [0,1,5,6] (fun m h bs=>∃ (i:Int) (l:List Rule) (n:Nat),zb7 k t bunch m i l n=some s_/\(h 0=zas t/\h 1=ints bunch/\h 5=.arr 0 23 0 n n (n*23)/\h 6=.int .i64 i)/\bs=[.cells false (n*23) (vecC zao l)]) ?_ k _ _ ?_;rotate_left
  .exact ⟨0,[],0,H1,kq hh,rfl⟩
  clear hh h H1;rintro m h bs ⟨i,l,n,H1,hh,rfl⟩;rcases m with _|m
  .rw [zb7] at H1;cases H1
  rw [zb7] at H1;repeat apply d6
  refine rk [0,1,5,6,12] [] hh fun h hh=>?_;rcases isp H1 with ⟨c1,H1⟩|⟨c1,H1⟩;rotate_left
  .skip;refine cf (f2 hh (zAb c1)) ?_;refine xk ?_;cases H1;exact ce hh ⟨kq hh,rfl⟩
  refine ct (f2 hh (zAa c1)) ?_;refine sk ?_;apply d6;apply fo;obtain ⟨g2,H1⟩:=isg H1;obtain ⟨g3,H1⟩:=isg H1;apply d6;refine rk [0,1,5,6,7] [] (f3 hh (zah g2) (zah g3)) fun h hh=>?_;obtain ⟨bg,e4,H1⟩:=zad H1;apply d6;refine rkp [0,1,5,6,7,8] [] [.bool bg] hh ?_ ?_
  .exact ⟨ff ((z1e ax hx k (⟨(gx t (gx bunch i)).prio,((gx t (gx bunch i)).mat),(gx t (gx bunch i)).step,(gx t (gx bunch i)).outs⟩:Rule) bg e4 ).call _),trivial⟩
  clear hh h;intro h hh;rcases isb H1 with ⟨c5,H1⟩|⟨c5,H1⟩;rotate_left
  .skip;obtain ⟨g6,H1⟩:=isg H1;obtain ⟨cd,e7,H1⟩:=zad H1;apply d6;refine rkp [0,1,5,6,7,33] [] [.int .i64 cd] (f2 hh c5) ?_ ?_
   .exact ⟨(by have q:=ff (Pure.lend (S:=stL [.cells false (n*23) (vecC zao l),.cells true 23 (d7 .i64 ((gx t (gx bunch i)).prio) :: ((((gx t (gx bunch i)).mat).mask).l.map (d7 .i64)++((((gx t (gx bunch i)).mat).bits).l.map (d7 .i64)++[d7 .i64 ((gx t (gx bunch i)).step),zbp ((gx t (gx bunch i)).outs)])))]) (args:=[.arr 0 23 0 n n (n*23),.agg (d7 .i64 ((gx t (gx bunch i)).prio) :: ((((gx t (gx bunch i)).mat).mask).l.map (d7 .i64)++((((gx t (gx bunch i)).mat).bits).l.map (d7 .i64)++[d7 .i64 ((gx t (gx bunch i)).step),zbp ((gx t (gx bunch i)).outs)])))]) (z09 ax hx k l (⟨(gx t (gx bunch i)).prio,((gx t (gx bunch i)).mat),(gx t (gx bunch i)).step,(gx t (gx bunch i)).outs⟩:Rule) cd e7 ) (dx (yaj (fun x=>zch x) (by decide) (by rfl) g6) (dx (Or.inl rfl) (trivial))) rfl);(try simp only [c5] at q);exact q),trivial⟩
   clear hh h;intro h hh;rcases isp H1 with ⟨c8,H1⟩|⟨c8,H1⟩;rotate_left
   .skip;refine cf (f2 hh (zAb c8)) ?_;refine sk ?_;refine rk [0,1,5,6] [] (f2 hh c5) fun h hh=>?_;exact rd m hh ⟨(d9.wrap (i+1)),l,n,H1,kq hh,rfl⟩
   refine ct (f2 hh (zAa c8)) ?_;obtain ⟨g9,H1⟩:=isg H1;refine rg [] [] [.cells false ((n+1)*23) (vecC zao (l++[(⟨(gx t (gx bunch i)).prio,((gx t (gx bunch i)).mat),(gx t (gx bunch i)).step,(gx t (gx bunch i)).outs⟩:Rule)])),.cells true 23 (d7 .i64 ((gx t (gx bunch i)).prio) :: ((((gx t (gx bunch i)).mat).mask).l.map (d7 .i64)++((((gx t (gx bunch i)).mat).bits).l.map (d7 .i64)++[d7 .i64 ((gx t (gx bunch i)).step),zbp ((gx t (gx bunch i)).outs)])))] (fun h=>h 0=zas t/\h 1=ints bunch/\h 5=.arr 0 23 0 (n+1) (n+1) ((n+1)*23)/\h 6=.int .i64 i) (f3 hh c5 ((show vecC zao [(⟨(gx t (gx bunch i)).prio,((gx t (gx bunch i)).mat),(gx t (gx bunch i)).step,(gx t (gx bunch i)).outs⟩:Rule)]=(d7 .i64 ((⟨(gx t (gx bunch i)).prio,((gx t (gx bunch i)).mat),(gx t (gx bunch i)).step,(gx t (gx bunch i)).outs⟩:Rule).prio) :: ((((⟨(gx t (gx bunch i)).prio,((gx t (gx bunch i)).mat),(gx t (gx bunch i)).step,(gx t (gx bunch i)).outs⟩:Rule).mat).mask).l.map (d7 .i64)++((((⟨(gx t (gx bunch i)).prio,((gx t (gx bunch i)).mat),(gx t (gx bunch i)).step,(gx t (gx bunch i)).outs⟩:Rule).mat).bits).l.map (d7 .i64)++[d7 .i64 ((⟨(gx t (gx bunch i)).prio,((gx t (gx bunch i)).mat),(gx t (gx bunch i)).step,(gx t (gx bunch i)).outs⟩:Rule).step),zbp ((⟨(gx t (gx bunch i)).prio,((gx t (gx bunch i)).mat),(gx t (gx bunch i)).step,(gx t (gx bunch i)).outs⟩:Rule).outs)]))) from zl7.trans rfl))) trivial fun h hh=>?_;refine rk [0,1,5,6] [] (f2 hh c5) fun h hh=>?_;exact rd m hh ⟨(d9.wrap (i+1)),(l++[(⟨(gx t (gx bunch i)).prio,((gx t (gx bunch i)).mat),(gx t (gx bunch i)).step,(gx t (gx bunch i)).outs⟩:Rule)]),(n+1),H1,kq hh,rfl⟩
  apply d6;refine rk [0,1,5,6,7,33] [] (f2 hh c5) fun h hh=>?_;refine cf hh ?_;refine sk ?_;refine rk [0,1,5,6] [] (f2 hh c5) fun h hh=>?_;exact rd m hh ⟨(d9.wrap (i+1)),l,n,H1,kq hh,rfl⟩
 clear hh h;rintro h bs ⟨hh,rfl⟩;apply d6;refine rk [4] [] hh fun h hh=>?_;obtain ⟨g10,H⟩:=isg H;refine nf 4 (b:=0) (e:=23) (off:=0) (len:=s_.2) (cap:=s_.2) (M:=(s_.2*23)) (s_.1.map zao) (kq hh) (by rfl) (by omega) (by omega) (by rw [fl];exact zim (fun x=>zch x) g10) (fun t ht=>by obtain ⟨x,_,rfl⟩:=ip.1 ht;first|rfl|exact zi7 _|exact zh5 _|exact zc6 _|exact zch _ | (rw [ek];rfl)) (by rw [ek]<;>exact g10) (by omega) ?_;rw [zhs _ _ _ (by simp only [lzA]<;>omega)];simp only [scA];refine gk [4] hh fun h hh=>?_;cases H;exact rt hh
def zuy (k:Nat) (port:Int) (tag:Int):Option Pat:=((zmc k port tag).bind fun rAt=>some rAt)
def zqn (k:Nat) (m_:Pat) (n:Pat):Option Pat:=((zhj k n m_.bits).bind fun ak=>((zhj k (⟨n.mask,n.mask⟩:Pat) m_.mask).bind fun dp=>some (⟨dp,ak⟩:Pat)))
def zdv (k:Nat) (l:List (List Alt)) (port:Int) (tag:Int) (i:Int):Nat->Int->(List Alt)->Nat->Option (List Alt×Nat)
 |0,_,_,_=>none
 |m+1,k_,l3,n2=>(if 0<=i/\i<(l.length:Int) then (if k_<((gx l i).length:Int) then (if 0<=k_/\k_<((gx l i).length:Int) then ((zuy k port tag).bind fun rTo=>((zqn k rTo ((gx (gx l i) k_).mod)).bind fun bv=>(if (n2+1)*169<=1000000000 then zdv k l port tag i m (d9.wrap (k_+1)) (l3++[(⟨(gx (gx l i) k_).link,bv⟩:Alt)]) (n2+1) else none))) else none) else some (l3,n2)) else none)
def zdw (k:Nat) (l:List (List Alt)) (port:Int) (tag:Int):Nat->Int->(List (List Alt))->Nat->Option (List (List Alt)×Nat)
 |0,_,_,_=>none
 |m+1,i,l2,n=>(if i<(l.length:Int) then ((((zdv k l port tag i k 0 [] 0:Option (List Alt×Nat)).bind fun s_3=>(if s_3.1.length=s_3.2 then (if (n+1)*25<=1000000000 then some (l2++[s_3.1]) else none) else none)):Option (List (List Alt))).bind fun s_2=>zdw k l port tag m (d9.wrap (i+1)) s_2 (n+1)) else some (l2,n))
def zik (k:Nat) (l:List (List Alt)) (port:Int) (tag:Int):Option (List (List Alt)):=((zdw k l port tag k 0 [] 0:Option (List (List Alt)×Nat)).bind fun s_=>(if s_.1.length=s_.2 then some s_.1 else none))
def znc (k:Nat) (link:Int) (tag:Int):Option (List (List Alt)):=((zuy k link tag).bind fun rTo=>some [[(⟨link,rTo⟩:Alt)]])
def zd6 (k:Nat) (t:List Rule):Nat->Int->(List Rule)->Nat->Option (List Rule×Nat)
 |0,_,_,_=>none
 |m+1,i,l,n=>(if i<(t.length:Int) then (if 0<=i/\i<(t.length:Int) then (if (n+1)*201<=1000000000 then zd6 k t m (d9.wrap (i+1)) (l++[(⟨d9.wrap ((t.length:Int) - i),((gx t i).mat),(gx t i).step,(gx t i).outs⟩:Rule)]) (n+1) else none) else none) else some (l,n))
def zjf (k:Nat) (t:List Rule):Option (List Rule):=((zd6 k t k 0 [] 0:Option (List Rule×Nat)).bind fun s_=>(if s_.1.length=s_.2 then some s_.1 else none))
def zdx (k:Nat) (l:List Int) (k_:Int):Nat->Bool->Int->Option Bool
 |0,_,_=>none
 |m+1,gone,i=>(if i<(l.length:Int) then (if gone=true then zdx k l k_ m true (d9.wrap (i+1)) else (if 0<=i/\i<(l.length:Int) then zdx k l k_ m (decide ((gx l i)=k_)) (d9.wrap (i+1)) else none)) else some gone)
def zeu (k:Nat) (t:List Rule) (l:List Int):Nat->Int->(List Rule)->Nat->Option (List Rule×Nat)
 |0,_,_,_=>none
 |m+1,k_,l2,n=>(if k_<(t.length:Int) then ((((zdx k l k_ k false 0:Option Bool).bind fun s_3=>(if s_3=true then some (l2,n) else (if 0<=k_/\k_<(t.length:Int) then (if (n+1)*201<=1000000000 then some (l2++[gx t k_],n+1) else none) else none))):Option (List Rule×Nat)).bind fun s_2=>zeu k t l m (d9.wrap (k_+1)) s_2.1 s_2.2) else some (l2,n))
def zk0 (k:Nat) (t:List Rule) (l:List Int):Option (List Rule×Nat):=((zeu k t l k 0 [] 0:Option (List Rule×Nat)).bind fun s_=>some (s_.1,s_.2))
def zhf (k:Nat) (c:zbc) (m_:Offl) (ah:List Rule):Nat->Bool->Int->Option Bool
 |0,_,_=>none
 |m+1,used,k_=>(if k_<(ah.length:Int) then ((zjn k (gx c.tables m_.node) m_.back (d9.wrap ((d9.wrap (m_.first+1))+k_))).bind fun dq=>(if used=true then zhf k c m_ ah m true (d9.wrap (k_+1)) else zhf k c m_ ah m dq (d9.wrap (k_+1)))) else some used)
def zhe (k:Nat) (m_:Offl) (ah:List Rule):Nat->Int->(List Rule)->Nat->Option (List Rule×Nat)
 |0,_,_,_=>none
 |m+1,k_2,l,n2=>(if k_2<(ah.length:Int) then ((zmc k m_.back (d9.wrap ((d9.wrap (m_.first+1))+k_2))).bind fun dr=>(if 0<=k_2/\k_2<(ah.length:Int) then ((zik k ((gx ah k_2).outs) m_.port m_.tag).bind fun du=>(if (n2+1)*201<=1000000000 then zhe k m_ ah m (d9.wrap (k_2+1)) (l++[(⟨0,dr,(gx ah k_2).step,du⟩:Rule)]) (n2+1) else none)) else none)) else some (l,n2))
def zfz (k:Nat) (c:zbc) (m_:Offl) (ag:List Int) (ah:List Rule):Nat->Int->(List Rule)->Nat->Option (List Rule×Nat)
 |0,_,_,_=>none
 |m+1,i,l2,n3=>(if i<(ag.length:Int) then (if 0<=i/\i<(ag.length:Int) then (if (0:Int)<=(gx ag i)/\(gx ag i)<((gx c.tables m_.node).length:Int) then (if (0:Int)<=0/\0<(10:Int) then (if (0:Int)<=9/\9<(10:Int) then ((zlf k (⟨(gx (gx c.tables m_.node) (gx ag i)).prio,((gx (gx c.tables m_.node) (gx ag i)).mat),(gx (gx c.tables m_.node) (gx ag i)).step,(gx (gx c.tables m_.node) (gx ag i)).outs⟩:Rule)).bind fun bg=>(if bg=true then (if (n3+1)*201<=1000000000 then zfz k c m_ ag ah m (d9.wrap (i+1)) (l2++[(⟨0,(⟨((gx (gx c.tables m_.node) (gx ag i)).mat).mask,((((gx (gx c.tables m_.node) (gx ag i)).mat).bits).set 0 m_.out).set 9 m_.first⟩:Pat),(-1),[]⟩:Rule)]) (n3+1) else none) else ((zhd k ah (⟨(gx (gx c.tables m_.node) (gx ag i)).prio,((gx (gx c.tables m_.node) (gx ag i)).mat),(gx (gx c.tables m_.node) (gx ag i)).step,(gx (gx c.tables m_.node) (gx ag i)).outs⟩:Rule)).bind fun cd=>((znc k m_.back (d9.wrap ((d9.wrap (m_.first+1))+cd))).bind fun dv=>(if (n3+1)*201<=1000000000 then zfz k c m_ ag ah m (d9.wrap (i+1)) (l2++[(⟨0,(⟨((gx (gx c.tables m_.node) (gx ag i)).mat).mask,((((gx (gx c.tables m_.node) (gx ag i)).mat).bits).set 0 m_.out).set 9 m_.first⟩:Pat),(-1),dv⟩:Rule)]) (n3+1) else none))))) else none) else none) else none) else none) else some (l2,n3))
def z3f (k:Nat) (n:Net) (c:zbc) (m_:Offl):Option zx6:=(((if m_.node<0 then some true else (if (n.nodes.length:Int)<=m_.node then some true else (if m_.out<0 then some true else (if (n.links.length:Int)<=m_.out then some true else (if m_.back<0 then some true else (if (n.links.length:Int)<=m_.back then some true else (if m_.port<0 then some true else (if 65535<m_.port then some true else (if m_.tag<0 then some true else some (decide (65535<m_.tag))))))))))):Option Bool).bind fun s_=>(if s_=true then some (⟨(⟨0,[],[]⟩:zbc),1⟩:zx6) else (if 0<=m_.out/\m_.out<(n.links.length:Int) then (((if ((gx n.links m_.out).frm)≠m_.node then some true else (if 0<=m_.back/\m_.back<(n.links.length:Int) then (if ((gx n.links m_.back).frm)≠((gx n.links m_.out).to) then some true else some (decide (((gx n.links m_.back).to)≠m_.node))) else none)):Option Bool).bind fun s_2=>(if s_2=true then some (⟨(⟨0,[],[]⟩:zbc),1⟩:zx6) else (if 0<=m_.node/\m_.node<(c.tables.length:Int) then (if (0:Int)<=((gx n.links m_.out).to)/\((gx n.links m_.out).to)<(c.tables.length:Int) then ((zhh k (gx c.tables m_.node) m_.port m_.tag).bind fun ag=>(if (ag.length:Int)=0 then some (⟨(⟨0,[],[]⟩:zbc),9⟩:zx6) else ((zhg k (gx c.tables m_.node) ag).bind fun ah=>(((if m_.first<1 then some true else some (decide ((d9.wrap (65535 - (ah.length:Int)))<m_.first))):Option Bool).bind fun s_3=>(if s_3=true then some (⟨(⟨0,[],[]⟩:zbc),1⟩:zx6) else ((zjn k (gx c.tables ((gx n.links m_.out).to)) m_.out m_.first).bind fun bf=>((zhf k c m_ ah k bf 0:Option Bool).bind fun s_4=>(if s_4=true then some (⟨(⟨0,[],[]⟩:zbc),26⟩:zx6) else ((zk0 k (gx c.tables m_.node) ag).bind fun rb=>((zmc k m_.port m_.tag).bind fun rAt=>((znc k m_.out m_.first).bind fun dw=>(if (rb.2+1)*201<=1000000000 then ((zhe k m_ ah k 0 (rb.1++[(⟨0,rAt,(-1),dw⟩:Rule)]) (rb.2+1):Option (List Rule×Nat)).bind fun s_5=>(((if (0+(gx c.tables ((gx n.links m_.out).to)).length)*201<=1000000000 then (if (gx c.tables ((gx n.links m_.out).to)).length=0 then some ([],0) else some ((gx c.tables ((gx n.links m_.out).to)),(gx c.tables ((gx n.links m_.out).to)).length)) else none):Option (List Rule×Nat)).bind fun s_6=>((zfz k c m_ ag ah k 0 s_6.1 s_6.2:Option (List Rule×Nat)).bind fun s_7=>(((if 4000<(s_5.2:Int) then some true else some (decide (4000<(s_7.2:Int)))):Option Bool).bind fun s_8=>(if s_8=true then some (⟨(⟨0,[],[]⟩:zbc),2⟩:zx6) else (((if (0+c.tables.length)*25<=1000000000 then (if c.tables.length=0 then some ([],0) else some (c.tables,c.tables.length)) else none):Option (List (List Rule)×Nat)).bind fun s_9=>(if s_5.1.length=s_5.2 then ((zjf k s_5.1).bind fun dm=>(if 0<=m_.node/\m_.node<(s_9.2:Int) then (if m_.node.toNat<s_9.1.length then (if s_7.1.length=s_7.2 then ((zjf k s_7.1).bind fun dn=>(if (0:Int)<=((gx n.links m_.out).to)/\((gx n.links m_.out).to)<(s_9.2:Int) then (if ((gx n.links m_.out).to).toNat<(s_9.1.set m_.node.toNat dm).length then (if ((s_9.1.set m_.node.toNat dm).set ((gx n.links m_.out).to).toNat dn).length=s_9.2 then some (⟨(⟨c.version,(s_9.1.set m_.node.toNat dm).set ((gx n.links m_.out).to).toNat dn,c.steps⟩:zbc),0⟩:zx6) else none) else none) else none)) else none) else none) else none)) else none))))))) else none)))))))))))) else none) else none))) else none)))
theorem z2h (k:Nat) (r:Rule):zki k r=some (decide (r.step=-1/\r.outs.length=0))/\zlf k r=some (decide (r.step=-1/\r.outs.length=0)):=by
  have:∀ x:Option Bool,(x=if r.step=-1 then some (decide ((r.outs.length:Int)=0)) else some false)->x=some (decide (r.step=-1/\r.outs.length=0)):=by
    rintro x rfl;by_cases c:r.step=-1
    . rw [zAc c];congr 1;rw [decide_eq_decide];omega
    . rw [zAd c];congr 1;exact (zAb fun h=>c h.1).symm
  exact ⟨this _ rfl,this _ rfl⟩
theorem yht {α:Type} {q:α->Bool} {l:List α} {j:Nat} (h:j<l.length) (hq:q l[j]=true) (hn:∀ i (hi:i<j),q (l[i]'(by omega))=false):idxB q l=(j:Int):=by
  unfold idxB;have:l.findIdx? q=some j:=List.findIdx?_eq_some_iff_getElem.2 ⟨h,hq,fun i hi=>by rw [hn i hi];simp⟩;rw [this]
theorem z74 {α:Type} {L:Nat->Int->Option (Int ⊕ Unit)} (l:List α) (q:α->Bool) (hn:l.length<big) (hs:∀ m (j:Nat) (h:j<l.length),L (m+1) (j:Int)=if q l[j]=true then some (.inl (j:Int)) else L m (d9.wrap ((j:Int)+1)))
    (he:∀ m,L (m+1) (l.length:Int)=some (.inr ())) {k:Nat} (hk:l.length<k):L k 0=some (if l.any q=true then .inl (idxB q l) else .inr ()):=by
  have key:∀ (m j:Nat),j<=l.length->l.length - j<m->(∀ i (hi:i<j) (h:i<l.length),q l[i]=false)->L m (j:Int)=some (if l.any q=true then .inl (idxB q l) else .inr ()):=by
    intro m
    induction m with
    |zero=>intro j h1 h2;omega
    |succ m ih =>
      intro j h1 h2 h3;rcases ko j l.length with h|h
      . rw [hs m j h]
        cases hq:q l[j] with
        |true =>
          have ha:l.any q=true:=ky.2 ⟨_,ft h,hq⟩;rw [zAc rfl,zAc ha,yht h hq fun i hi=>h3 i hi (by omega)]
        |false =>
          rw [zAd (by simp),zcu j (by simp only [big] at hn;omega)];refine ih (j+1) (by omega) (by omega) fun i hi hil=>?_;rcases ko i j with w|w
          . exact h3 i w hil
          . obtain rfl:i=j:=by omega
            exact hq
      . obtain rfl:j=l.length:=by omega
        rw [he,zAd];intro ha;obtain ⟨x,hx,hxq⟩:=ky.1 ha;obtain ⟨i,hi,rfl⟩:=lq hx;rw [h3 i hi hi] at hxq;cases hxq
  exact key k 0 (gb _) (by omega) fun i hi=>by omega
def zep (r:Rule):Bool:=decide (r.step=-1/\r.outs.length=0)
def simB (a b:Rule):Bool:=decide (a.step=b.step/\a.outs=b.outs)
def zkg (acc:List Rule) (r:Rule):Bool:=acc.any fun x=>simB x r
def zha (acc:List Rule) (r:Rule):Int:=if zkg acc r=true then idxB (fun x=>simB x r) acc else (acc.length:Int)
def zbz:List Rule->List Rule->List Rule
  |acc,[]=>acc
  |acc,r :: l=>if zep r=true\/zkg acc r=true then zbz acc l else zbz (acc++[r]) l
def zv0:List Rule->List Rule->List Int
  |_,[]=>[]
  |acc,r :: l=>(if zep r=true then -1 else zha acc r) :: (if zep r=true\/zkg acc r=true then zv0 acc l else zv0 (acc++[r]) l)
theorem zgy:∀ (l acc:List Rule),∃ e,zbz acc l=acc++e/\e.length<=l.length/\∀ x,x∈e->x∈l
  |[],acc=>⟨[],by rw [zbz,fp],by simp,fun x hx=>hx⟩
  |r :: l,acc=>by
    rw [zbz];split
    . obtain ⟨e,h1,h2,h3⟩:=zgy l acc;exact ⟨e,h1,by simp;omega,fun x hx=>.tail _ (h3 x hx)⟩
    . obtain ⟨e,h1,h2,h3⟩:=zgy l (acc++[r]);refine ⟨r :: e,by rw [h1,ey];rfl,by simp;omega,fun x hx=>?_⟩
      cases hx with
      |head=>exact .head _
      |tail _ hx=>exact .tail _ (h3 x hx)
theorem ylg {α:Type} {q:α->Bool} {a b:List α} (h:a.any q=true):idxB q (a++b)=idxB q a:=by
  unfold idxB;rw [List.findIdx?_append]
  cases hf:a.findIdx? q with
  |some i=>rfl
  |none =>
    have:=List.findIdx?_eq_none_iff.1 hf;obtain ⟨x,hx,hq⟩:=ky.1 h;rw [this x hx] at hq;cases hq
theorem zwh {a b:List Rule} {r:Rule} (h:zkg a r=true):zkg (a++b) r=true:=by
  unfold zkg at h ⊢;rw [List.any_append,h,im]
theorem zu2 (r:Rule):simB r r=true:=zAa ⟨rfl,rfl⟩
theorem ylf {a b:List Rule} {r:Rule} (h:zkg a r=false):idxB (fun x=>simB x r) (a++r :: b)=(a.length:Int):=by
  refine yht (by simp) ?_ fun i hi=>?_
  . rw [List.getElem_append_right (Nat.le_refl _)];simp only [ln,List.getElem_cons_zero];exact zu2 r
  . rw [List.getElem_append_left hi]
    cases hs:simB a[i] r with
    |false=>rfl
    |true =>
      have:zkg a r=true:=ky.2 ⟨_,ft hi,hs⟩;rw [h] at this;cases this
theorem zq4:∀ (l acc:List Rule),zv0 acc l=l.map fun r=>if zep r=true then -1 else zha (zbz acc l) r
  |[],acc=>rfl
  |r :: l,acc=>by
    by_cases hd:zep r=true
    . have hc:zbz acc (r :: l)=zbz acc l:=by rw [zbz,zAc (Or.inl hd)]
      rw [zv0,hc,ge,zAc hd,zAc (Or.inl hd),zq4 l acc,zAc hd]
    . by_cases hi:zkg acc r=true
      . have hc:zbz acc (r :: l)=zbz acc l:=by rw [zbz,zAc (Or.inr hi)]
        rw [zv0,hc,ge,zAd hd,zAc (Or.inr hi),zq4 l acc,zAd hd];congr 1;obtain ⟨e,h1,_,_⟩:=zgy l acc;unfold zha;rw [zAc hi,h1,zAc (zwh hi),ylg hi]
      . have hn:¬ (zep r=true\/zkg acc r=true):=fun h=>h.elim hd hi;have hc:zbz acc (r :: l)=zbz (acc++[r]) l:=by rw [zbz,zAd hn]
        rw [zv0,hc,ge,zAd hd,zAd hn,zq4 l (acc++[r]),zAd hd];congr 1;obtain ⟨e,h1,_,_⟩:=zgy l (acc++[r]);unfold zha;rw [zAd hi,h1,ey,lu,zAc,ylf (by simpa using hi)];unfold zkg;rw [List.any_append,ot,zu2,im,iq]
def zam (t:List Rule) (B:List Int):List Rule:=B.map fun i=>gx t i
theorem zvf {t:List Rule} {B:List Int} {j:Nat} (h:j<B.length):(zam t B).drop j=gx t B[j] :: (zam t B).drop (j+1):=by
  unfold zam;rw [<- List.map_drop,i8 h,ge,List.map_drop]
theorem zpe {k:Nat} (l:List Rule) (f:Rule->Option Bool) (q:Rule->Bool) (hf:∀ x,x∈l->f x=some (q x)) (hl:l.length<big) (hk:l.length<k):zcl k l f=some (idxB q l):=by
  unfold zcl;exact zju l q hl (fun m j h=>by rw [za9,zAc (zae h),zAc ⟨by omega,zae h⟩,zca h,hf _ (ft h),dz]) (fun m=>by rw [za9,zAd (by omega)]) hk
theorem z5i {k:Nat} {y r:Rule} (hy:zia y) (hk:big<=k):zfs k y ⟨r.prio,r.mat,r.step,r.outs⟩=some (simB y r):=by
  unfold zfs;rw [zxq _ _ (show zia ⟨r.prio,r.mat,y.step,y.outs⟩ from hy) hk,dz];congr 1;unfold simB;rw [decide_eq_decide];constructor
  . intro h;have h3:=congrArg Rule.step h;have h4:=congrArg Rule.outs h;exact ⟨h3,h4⟩
  . rintro ⟨h1,h2⟩;rw [h1,h2]
theorem zox {α:Type} {q:α->Bool} {l:List α}:idxB q l<0↔¬ l.any q=true:=by
  rw [<- zt7];simp
theorem z8d {k:Nat} {t:List Rule} {b:ze2} (ht:z7r t) (hB:∀ i,i∈b.rules->0<=i/\i<(t.length:Int)) (hl:b.rules.length<=100000) (hk:big<=k):ziq k t b=some (zbz [] (zam t b.rules),zv0 [] (zam t b.rules)):=by
  have key:∀ (m j:Nat) (acc:List Rule) (o:List Int),j<=b.rules.length->b.rules.length - j<m->acc.length<=j->o.length<=j->(∀ x,x∈acc->zia x)->zb8 k t b m (j:Int) acc acc.length o o.length=some (zbz acc ((zam t b.rules).drop j),(zbz acc ((zam t b.rules).drop j)).length,o++zv0 acc ((zam t b.rules).drop j),(o++zv0 acc ((zam t b.rules).drop j)).length):=by
    intro m
    induction m with
    |zero=>intro j acc o h1 h2;omega
    |succ m ih =>
      intro j acc o h1 h2 h3 h4 h5;rw [zb8];rcases ko j b.rules.length with h|h
      . obtain ⟨q1,q2⟩:=hB _ (ft h)
        have hmem:gx t b.rules[j]∈t:=by
          obtain ⟨i,hi⟩:∃ i:Nat,b.rules[j]=(i:Int):=⟨b.rules[j].toNat,by omega⟩;rw [hi,zca (by omega)];exact ft _
        have hx:=ht.2 _ hmem;rw [zAc (zae h),zAc ⟨by omega,zae h⟩,zca h,zAc ⟨q1,q2⟩,(z2h k _).1,dz,zvf h,zbz,zv0,zcu j (by omega)];generalize hr:gx t b.rules[j]=r at hx;have hdd:decide (r.step=-1/\r.outs.length=0)=zep r:=rfl;have i1:=ih (j+1) acc (o++[-1]) (by omega) (by omega) (by omega) (by simp;omega) h5;have i2:=ih (j+1) acc (o++[zha acc r]) (by omega) (by omega) (by omega) (by simp;omega) h5
        have i3:=ih (j+1) (acc++[r]) (o++[zha acc r]) (by omega) (by omega) (by simp;omega) (by simp;omega) (fun x hx2=>by
          rcases ov.1 hx2 with w|w
          . exact h5 x w
          . rw [jv] at w;rw [w];exact hx)
        simp only [eu,gz,ey,lu] at i1 i2 i3;show (if decide (r.step=-1/\r.outs.length=0)=true then _ else _)=_;rw [hdd];by_cases hd:zep r=true
        . rw [zAc hd,zAc (by omega),zAc (.inl hd),zAc hd,zAc (.inl hd),i1];simp only [eu]
        . rw [zAd hd,zAd hd,zAc rfl,zpe acc _ (fun y=>simB y r) (fun y hy=>z5i (h5 y hy) hk) (by simp only [big];omega) (by simp only [big] at hk;omega),dz];by_cases hi:zkg acc r=true
          . have e:zha acc r=idxB (fun y=>simB y r) acc:=zAc hi;rw [zAd (fun h=>zox.1 h hi),zAc (by omega),zAc (.inr hi),zAc (.inr hi),<- e,i2];simp only [eu]
          . have e:zha acc r=(acc.length:Int):=zAd hi;have hn:¬ (zep r=true\/zkg acc r=true):=fun h=>h.elim hd hi;rw [zAc (zox.2 hi),zAc (by omega),zAc (by omega),zAd hn,zAd hn];rw [e] at i3 ⊢;rw [i3];simp only [eu]
      . obtain rfl:j=b.rules.length:=by omega
        have e:(zam t b.rules).drop b.rules.length=[]:=gu (by unfold zam;simp);rw [zAd (by omega),e,zbz,zv0,fp]
  unfold ziq;have:=key k 0 [] [] (gb _) (by simp only [big] at hk;omega) (by simp) (by simp) (fun x hx=>by cases hx);rw [fl,fb] at this;have e:(zb8 k t b k 0 [] 0 [] 0:Option (List Rule×Nat×List Int×Nat))=_:=this;rw [e,dz];simp only [if_true]
theorem yf0 {k:Nat} (a b:Rule) (ha:zia a) (hk:big<=k):zlb k a b=some (simB a b):=by
  unfold zlb;rw [z35 _ _ (show zia ⟨0,⟨zA 10,zA 10⟩,a.step,a.outs⟩ from ha) hk,dz];congr 1;unfold simB;rw [decide_eq_decide];constructor
  . intro h;injection h with h1 h2 h3 h4;exact ⟨h3,h4⟩
  . rintro ⟨h1,h2⟩;rw [h1,h2]
theorem z32 {k:Nat} (l:List Rule) (r:Rule) (hl:∀ x,x∈l->zia x) (hn:l.length<big) (hk:big<=k):zhd k l r=some (zha l r):=by
  unfold zhd
  have:=z74 (L:=zd8 k l r) l (fun x=>simB x r) hn (fun m j h=>by
    rw [zd8,zAc (zae h),zAc ⟨by omega,zae h⟩,zca h,yf0 _ _ (hl _ (ft h)) hk,dz]) (fun m=>by rw [zd8,zAd (by omega)]) (fh hn hk)
  rw [this,dz];unfold zha;show i9 _ _ (if zkg l r=true then _ else _)=_;split<;>rfl
theorem z52 {acc:List Rule} {r:Rule}:zha acc r=(acc.length:Int)↔¬ zkg acc r=true:=by
  unfold zha;by_cases h:zkg acc r=true
  . rw [zAc h];refine ⟨fun e=>?_,fun e=>absurd h e⟩;exfalso;unfold idxB at e
    cases hf:acc.findIdx? fun x=>simB x r with
    |none=>rw [hf] at e;simp only at e;omega
    |some i =>
      rw [hf] at e;obtain ⟨hi,_⟩:=List.findIdx?_eq_some_iff_getElem.1 hf;simp only at e;omega
  . rw [zAd h];exact ⟨fun _=>h,fun _=>rfl⟩
theorem zvk {k:Nat} {t:List Rule} {B:List Int} (ht:z7r t) (hB:∀ i,i∈B->0<=i/\i<(t.length:Int)) (hl:B.length<=100000) (hk:big<=k):zhg k t B=some (zbz [] (zam t B)):=by
  have key:∀ (m j:Nat) (acc:List Rule),j<=B.length->B.length - j<m->acc.length<=j->(∀ x,x∈acc->zia x)->zb7 k t B m (j:Int) acc acc.length=some (zbz acc ((zam t B).drop j),(zbz acc ((zam t B).drop j)).length):=by
    intro m
    induction m with
    |zero=>intro j acc h1 h2;omega
    |succ m ih =>
      intro j acc h1 h2 h3 h5;rw [zb7];rcases ko j B.length with h|h
      . obtain ⟨q1,q2⟩:=hB _ (ft h)
        have hmem:gx t B[j]∈t:=by
          obtain ⟨i,hi⟩:∃ i:Nat,B[j]=(i:Int):=⟨B[j].toNat,by omega⟩;rw [hi,zca (by omega)];exact ft _
        have hx:=ht.2 _ hmem;rw [zAc (zae h),zAc ⟨by omega,zae h⟩,zca h,zAc ⟨q1,q2⟩,(z2h k _).2,dz,zvf h,zbz,zcu j (by omega)];generalize hr:gx t B[j]=r at hx;have hdd:decide (r.step=-1/\r.outs.length=0)=zep r:=rfl;have i1:=ih (j+1) acc (by omega) (by omega) (by omega) h5
        have i3:=ih (j+1) (acc++[r]) (by omega) (by omega) (by simp;omega) (fun x hx2=>by
          rcases ov.1 hx2 with w|w
          . exact h5 x w
          . rw [jv] at w;rw [w];exact hx)
        simp only [eu,gz] at i3;show (if decide (r.step=-1/\r.outs.length=0)=true then _ else _)=_;rw [hdd];by_cases hd:zep r=true
        . rw [zAc hd,zAc (.inl hd),i1]
        . rw [zAd hd,zAc rfl];show Option.bind (zhd k acc r) _=_;rw [z32 acc r h5 (by simp only [big];omega) hk,dz];by_cases hi:zkg acc r=true
          . rw [zAd (fun e=>z52.1 e hi),zAc (.inr hi),i1]
          . have hn:¬ (zep r=true\/zkg acc r=true):=fun h=>h.elim hd hi;rw [zAc (z52.2 hi),zAc (by omega),zAd hn];exact i3
      . obtain rfl:j=B.length:=by omega
        have e:(zam t B).drop B.length=[]:=gu (by unfold zam;simp);rw [zAd (by omega),e,zbz]
  unfold zhg;have:=key k 0 [] (gb _) (by simp only [big] at hk;omega) (by simp) (fun x hx=>by cases hx);rw [fl] at this;have e:(zb7 k t B k 0 [] 0:Option (List Rule×Nat))=_:=this;rw [e,dz];simp only [if_true]
theorem yei {k:Nat} {h n:Pat} (hp:zag h.mask=true) (hn:zag n.mask=true) (hk:10<k):∃ x,zdo k n k 0 h.mask=some x/\zag x=true/\∀ i,i<160->hbit x i=(hbit h.mask i || hbit n.mask i):=by
  have hfold:=z4u (L:=zdo k n) 10 (fun x i=>x.set (i:Int) (iOr .i64 (gx x.l (i:Int)) (gx n.mask.l (i:Int))))
    (fun j x=>∀ i:Nat,i<10->gx x.l (i:Int)=if i<j then ((hw h.mask i ||| hw n.mask i:Nat):Int) else (hw h.mask i:Int)) (by decide)
    (fun fu j x hj hI=>by
      obtain ⟨b1,b2⟩:=zc2 hn hj;obtain ⟨c1,c2⟩:=zc2 hp hj;refine ⟨by rw [zdo,zAc (lt10 hj),zAc ⟨by omega,lt10 hj⟩],fun i hi=>?_⟩;by_cases hij:j=i
      . subst hij;have h0:=hI j hj;rw [zAd (Nat.lt_irrefl j)] at h0;rw [zf8 _ hi,zAc (Nat.lt_succ_self j),h0,b1,yh2 (by omega) (by omega)]
      . rw [zix _ hi hij,hI i hi];by_cases hlt:i<j
        . rw [zAc hlt,zAc (by omega)]
        . rw [zAd hlt,zAd (by omega)]) (fun fu x _=>by rw [zdo];exact zAd (by decide)) hk (s:=h.mask) (fun i hi=>by rw [zAd (Nat.not_lt_zero i)];exact (zc2 hp hi).1)
  obtain ⟨h1,h2⟩:=hfold;refine ⟨_,h1,?_⟩;generalize (i7 10).foldl _ h.mask=x at h2 ⊢;have hx:∀ i:Nat,i<10->gx x.l (i:Int)=((hw h.mask i ||| hw n.mask i:Nat):Int):=fun i hi=>by rw [h2 i hi,zAc hi]
  have hlt:∀ i,i<10->(hw h.mask i ||| hw n.mask i)<65536:=fun i hi=>Nat.or_lt_two_pow (n:=16) (zc2 hp hi).2 (zc2 hn hi).2;refine ⟨zit fun j hj=>⟨_,hx j hj,hlt j hj⟩,fun i hi=>?_⟩;have hi10:i / 16<10:=by omega
  have e1:hw x (i / 16)=hw h.mask (i / 16) ||| hw n.mask (i / 16):=by
    unfold hw;rw [hx (i / 16) hi10];rfl
  unfold hbit;rw [e1,Nat.testBit_or]
theorem yeh {k:Nat} {m n:Pat} (hm:zak m=true) (hn:zak n=true) (hk:160<k):∃ x,zgf k m n=some x/\zqn k m n=some x/\zak x=true:=by
  obtain ⟨mm,mb,mw⟩:=za5.1 hm;obtain ⟨nm,nb,nw⟩:=za5.1 hn;have hnn:zak ⟨n.mask,n.mask⟩=true:=za5.2 ⟨nm,nm,fun i _ h=>h⟩;obtain ⟨a,a1,a2⟩:=zsu (k:=k) hn mb (by omega);obtain ⟨b,b1,b2⟩:=zvn (k:=k) hn mb hk;obtain ⟨c,c1,c2,c3⟩:=yei (k:=k) (h:=m) (n:=n) mm nm (by omega);obtain ⟨d,d1,d2⟩:=zvn (k:=k) hnn mm hk;have e1:b=a:=b2.uniq a2
  have e2:d=c:=d2.uniq ⟨c2,fun i hi=>by
    rw [c3 i hi];show _=if hbit n.mask i=true then hbit n.mask i else hbit m.mask i
    cases hbit n.mask i<;>simp⟩
  subst e1;subst e2;refine ⟨⟨d,b⟩,?_,?_,za5.2 ⟨c2,a2.1,fun i hi hb=>?_⟩⟩
  . unfold zgf;rw [a1,dz,c1];rfl
  . unfold zqn;rw [b1,dz,d1];rfl
  . show hbit d i=true;rw [c3 i hi];have h2:hbit b i=true:=hb;rw [a2.2 i hi] at h2;split at h2
    . next h=>rw [h,iq]
    . rw [mw i hi h2,im]
/-! tables without some rules -/
def woL (B:List Int):Nat->List Rule->List Rule
  |_,[]=>[]
  |i,r :: l=>if B.any (fun x=>decide (x=(i:Int)))=true then woL B (i+1) l else r :: woL B (i+1) l
theorem yd6 (B:List Int):∀ (l:List Rule) (i:Nat),(woL B i l).length<=l.length
  |[],_=>Nat.le_refl _
  |r :: l,i=>by
    have:=yd6 B l (i+1);rw [woL];split<;>simp<;>omega
theorem z0t (B:List Int):∀ (l:List Rule) (i:Nat) (x:Rule),x∈woL B i l->x∈l
  |[],_,x,h=>h
  |r :: l,i,x,h=>by
    rw [woL] at h;split at h
    . exact .tail _ (z0t B l (i+1) x h)
    . cases h with
      |head=>exact .head _
      |tail _ h=>exact .tail _ (z0t B l (i+1) x h)
theorem z6s {k:Nat} {l:List Int} {v:Int} (hl:l.length<big) (hk:big<=k):zdh k l v=some (l.any fun x=>decide (x=v)):=by
  unfold zdh zgd
  rw [zju l (fun x=>decide (x=v)) hl (fun m j h=>by
    rw [zb4,zAc (zae h),zAc ⟨by omega,zae h⟩,zca h];by_cases c:v=l[j]
    . rw [zAc c,zAc (zAa c.symm)]
    . rw [zAd c,zAd (by rw [decide_eq_true_eq];exact fun e=>c e.symm)]) (fun m=>by rw [zb4,zAd (by omega)]) (fh hl hk),dz,zt7]
theorem z00 {k:Nat} {t:List Rule} {B:List Int} (ht:t.length<=4000) (hB:B.length<big) (hk:big<=k):zfr k t B=some (woL B 0 t,(woL B 0 t).length):=by
  have key:∀ (m j:Nat) (acc:List Rule),j<=t.length->t.length - j<m->acc.length<=j->zbm k t B m (j:Int) acc acc.length=some (acc++woL B j (t.drop j),(acc++woL B j (t.drop j)).length):=by
    intro m
    induction m with
    |zero=>intro j acc h1 h2;omega
    |succ m ih =>
      intro j acc h1 h2 h3;rw [zbm];rcases ko j t.length with h|h
      . rw [zAc (zae h),zAc ⟨by omega,zae h⟩,z6s hB hk,dz,i8 h,woL,zcu j (by omega),zca h];by_cases hc:(B.any fun x=>decide (x=(j:Int)))=true
        . rw [zAc hc,zAc hc,ih (j+1) acc (by omega) (by omega) (by omega)]
        . rw [zAd hc,zAd hc,zAc (by omega)];have:=ih (j+1) (acc++[t[j]]) (by omega) (by omega) (by simp;omega);rw [ey,lu,eu,gz] at this;exact this
      . obtain rfl:j=t.length:=by omega
        rw [zAd (by omega),oh,woL,fp]
  unfold zfr;have:=key k 0 [] (gb _) (by simp only [big] at hk;omega) (gb _);rw [fl,fb] at this;have e:(zbm k t B k 0 [] 0:Option (List Rule×Nat))=_:=this;rw [e,dz]
theorem zxy {k:Nat} {B:List Int} {v:Int} (hB:B.length<big) (hk:big<=k):zdx k B v k false 0=some (B.any fun x=>decide (x=v)):=by
  have key:∀ (m j:Nat) (g:Bool),j<=B.length->B.length - j<m->zdx k B v m g (j:Int)=some (g || (B.drop j).any fun x=>decide (x=v)):=by
    intro m
    induction m with
    |zero=>intro j g h1 h2;omega
    |succ m ih =>
      intro j g h1 h2;rw [zdx];rcases ko j B.length with h|h
      . rw [zAc (zae h),zcu j (by simp only [big] at hB;omega),i8 h,ot]
        cases g with
        |true=>rw [zAc rfl,ih (j+1) true (by omega) (by omega)];simp
        |false=>rw [zAd (by simp),zAc ⟨by omega,zae h⟩,zca h,ih (j+1) _ (by omega) (by omega)];simp
      . obtain rfl:j=B.length:=by omega
        rw [zAd (by omega),oh];simp
  have:=key k 0 false (gb _) (by omega);rw [fl,ib] at this;exact this
theorem z7j {k:Nat} {t:List Rule} {B:List Int} (ht:t.length<=4000) (hB:B.length<big) (hk:big<=k):zk0 k t B=some (woL B 0 t,(woL B 0 t).length):=by
  have key:∀ (m j:Nat) (acc:List Rule),j<=t.length->t.length - j<m->acc.length<=j->zeu k t B m (j:Int) acc acc.length=some (acc++woL B j (t.drop j),(acc++woL B j (t.drop j)).length):=by
    intro m
    induction m with
    |zero=>intro j acc h1 h2;omega
    |succ m ih =>
      intro j acc h1 h2 h3;rw [zeu];rcases ko j t.length with h|h
      . rw [zAc (zae h),zxy hB hk,dz,i8 h,woL,zcu j (by omega),zca h];by_cases hc:(B.any fun x=>decide (x=(j:Int)))=true
        . rw [zAc hc,zAc hc,dz];exact ih (j+1) acc (by omega) (by omega) (by omega)
        . rw [zAd hc,zAd hc,zAc ⟨by omega,zae h⟩,zAc (by omega),dz];have:=ih (j+1) (acc++[t[j]]) (by omega) (by omega) (by simp;omega);rw [ey,lu,eu,gz] at this;exact this
      . obtain rfl:j=t.length:=by omega
        rw [zAd (by omega),oh,woL,fp]
  unfold zk0;have:=key k 0 [] (gb _) (by simp only [big] at hk;omega) (gb _);rw [fl,fb] at this;have e:(zeu k t B k 0 [] 0:Option (List Rule×Nat))=_:=this;rw [e,dz]
/-! who meets a spot -/
def zpa (t:List Rule) (s:Spot):Bool:=t.any fun r=>zkf r.mat (spP s)
theorem yre {α:Type} (l:List α) (q:α->Bool):l.any q=!(l.all fun x=>!q x):=by
  induction l with
  |nil=>rfl
  |cons x l ih=>rw [ot,ig,ih];cases q x<;>simp
theorem z31 {k:Nat} {t:List Rule} {s:Spot} (hr:∀ r,r∈t->zak r.mat=true) (hl:t.length<big) (hp:zbf s.port=true) (ht:zbf s.tag=true) (hk:big<=k):zjn k t s.port s.tag=some (zpa t s):=by
  unfold zjn
  rw [zkr (L:=zht k t s.port s.tag) t true (fun r=>!zkf r.mat (spP s)) hl (fun m j h=>by
    rw [zht,zAc (zae h),zAc ⟨by omega,zae h⟩,zca h,zvl,dz];show Option.bind (ze8 k t[j].mat (spP s)) _=_;rw [zvm (hr _ (ft h)) (zhx hp ht) (by simp only [big] at hk;omega),dz]
    cases zkf t[j].mat (spP s)<;>rfl) (fun m=>by rw [zht,zAd (by omega)]) (fh hl hk),dz]
  unfold zpa;rw [yre];cases (t.all fun r=>!zkf r.mat (spP s))<;>rfl
theorem z5h {k:Nat} {t:List Rule} {s:Spot} (hr:∀ r,r∈t->zak r.mat=true) (hl:t.length<big) (hp:zbf s.port=true) (ht:zbf s.tag=true) (hk:big<=k):zbh k t s=some (zpa t s):=by
  unfold zbh zdc
  rw [zju t (fun r=>zkf r.mat (spP s)) hl (fun m j h=>by
    rw [za2,zAc (zae h),zAc ⟨by omega,zae h⟩,zca h,yah (hr _ (ft h)) hp ht hk,dz]) (fun m=>by rw [za2,zAd (by omega)]) (fh hl hk),dz,zt7]
  rfl
/-! a bunch that is looked for -/
theorem zpf {k:Nat} (l:List ze2) (f:ze2->Option Bool) (q:ze2->Bool) (hf:∀ x,x∈l->f x=some (q x)) (hl:l.length<big) (hk:l.length<k):zcm k l f=some (idxB q l):=by
  unfold zcm;exact zju l q hl (fun m j h=>by rw [zba,zAc (zae h),zAc ⟨by omega,zae h⟩,zca h,hf _ (ft h),dz]) (fun m=>by rw [zba,zAd (by omega)]) hk
theorem yig (k:Nat) (b:ze2) (s:Spot):zie k b s=some (decide (b.port=s.port/\b.tag=s.tag)):=by
  unfold zie;by_cases h:b.port=s.port
  . rw [zAc h];congr 1;rw [decide_eq_decide];exact ⟨fun h2=>⟨h,h2⟩,fun h2=>h2.2⟩
  . rw [zAd h];congr 1;exact (zAb fun h2=>h h2.1).symm
def bix (t:List Rule) (s:Spot):List Int:=if zlv t s=true then [] else idxF (qs s) t 0
theorem zq8 {α:Type} [Inhabited α] {q:α->Bool} {l:List α} (h:¬ idxB q l<0):idxB q l<(l.length:Int)/\gx l (idxB q l)∈l/\q (gx l (idxB q l))=true:=by
  unfold idxB at h ⊢
  cases hf:l.findIdx? q with
  |none=>rw [hf] at h;exact absurd (by decide) h
  |some i =>
    obtain ⟨h1,h2,_⟩:=List.findIdx?_eq_some_iff_getElem.1 hf;simp only;rw [zca h1];exact ⟨by omega,ft h1,h2⟩
theorem ylr {k:Nat} {t:List Rule} {s:Spot} (hr:∀ r,r∈t->zak r.mat=true) (hl:t.length<1000000) (hk:big<=k):znf k t s=some (if bix t s=[] then (⟨0,0,[]⟩,false) else (⟨s.port,s.tag,bix t s⟩,true)):=by
  unfold znf
  have hlb:(zxe t).length<big:=by
    refine Nat.lt_of_le_of_lt (List.length_filterMap_le _ _) ?_;have:=yda t [];simp only [gd] at this;simp only [big];omega
  rw [z8e hr hl hk,dz,zpf (zxe t) _ (fun b=>decide (b.port=s.port/\b.tag=s.tag)) (fun b _=>yig k b s) hlb (fh hlb hk),dz];generalize hq:(fun b:ze2=>decide (b.port=s.port/\b.tag=s.tag))=q;by_cases hn:idxB q (zxe t)<0
  . rw [zAc hn];have hno:=zox.1 hn
    have hb:bix t s=[]:=by
      unfold bix
      cases hm:zlv t s with
      |true=>rfl
      |false =>
        rw [zAd (by simp)];refine zt6.2 fun r hr2=>?_
        cases hqs:qs s r with
        |false=>rfl
        |true =>
          exfalso;apply hno;unfold qs at hqs;rw [d8] at hqs;have hs:s∈zks t []:=(zou t [] s).2 (.inr ⟨r,hr2,hqs.1,zAe hqs.2⟩);refine ky.2 ⟨⟨s.port,s.tag,idxF (qs s) t 0⟩,rp.2 ⟨s,hs,?_⟩,?_⟩
          . unfold z2v;rw [hm];rfl
          . rw [<- hq];exact zAa ⟨rfl,rfl⟩
    rw [zAc hb]
  . obtain ⟨h1,h2,h3⟩:=zq8 hn;rw [zAd hn,zAc ⟨by omega,h1⟩];generalize gx (zxe t) (idxB q (zxe t))=b at h2 h3;obtain ⟨s',hs',hb'⟩:=rp.1 h2;unfold z2v at hb'
    cases hm:zlv t s' with
    |true=>rw [hm] at hb';cases hb'
    |false =>
      rw [hm,zAd (by simp)] at hb';cases hb';rw [<- hq] at h3;obtain ⟨e1,e2⟩:=zAe h3;have:s'=s:=by cases s';cases s;simp only at e1 e2;rw [e1,e2]
      subst this;have hb:bix t s'=idxF (qs s') t 0:=by unfold bix;rw [hm];rfl
      rw [hb,zAd];rcases (zou t [] s').1 hs' with h|⟨r,hr2,g1,g2⟩
      . cases h
      . intro he;have:=zt6.1 he r hr2;unfold qs at this;rw [g1,zAa g2] at this;cases this
theorem yhs (q:Rule->Bool):∀ (l:List Rule) (i x:Int),x∈idxF q l i->x<i+(l.length:Int)
  |[],i,x,h=>by cases h
  |r :: l,i,x,h=>by
    rw [idxF] at h
    have key:x∈idxF q l (i+1)->x<i+((r :: l).length:Int):=fun h=>by
      have:=yhs q l (i+1) x h;rw [ez];omega
    split at h
    . rcases ic.1 h with rfl|h
      . rw [ez];omega
      . exact key h
    . exact key h
theorem z2w {t:List Rule} {s:Spot} {i:Int} (h:i∈bix t s):0<=i/\i<(t.length:Int):=by
  unfold bix at h;split at h
  . cases h
  . have:=yhs _ _ _ _ h;have:=z76 _ _ _ _ h;omega
theorem yjr (t:List Rule) (s:Spot):(bix t s).length<=t.length:=by
  unfold bix;split
  . simp
  . exact z17 _ _ _
theorem zrm {α β:Type} {c:α->Option β}:∀ {l:List α},l.findSome? c=none->∀ x,x∈l->c x=none
  |[],_,x,hx=>by cases hx
  |y :: l,h,x,hx=>by
    rw [List.findSome?_cons] at h
    cases hc:c y with
    |some b=>rw [hc] at h;cases h
    |none =>
      rw [hc] at h
      cases hx with
      |head=>exact hc
      |tail _ hx=>exact zrm h x hx
theorem z53 {n:Net} {steps:Int} {t:List Rule} (h:(zm2 n steps t).2=0):t.length<=4000/\∀ j,j<t.length->zny n steps t j=true:=by
  unfold zm2 at h;by_cases c1:steps<0\/1000<steps
  . rw [zAc c1] at h;cases h
  . rw [zAd c1] at h;by_cases c2:4000<t.length
    . rw [zAc c2] at h;cases h
    . rw [zAd c2] at h;refine ⟨by omega,fun j hj=>?_⟩
      cases hf:(i7 t.length).findSome? (fun j=>if zny n steps t j=true then none else some ((j:Int),(1:Int))) with
      |some r =>
        rw [hf] at h;obtain ⟨x,_,hx⟩:=List.exists_of_findSome?_eq_some hf;simp only at h;split at hx
        . cases hx
        . cases hx;cases h
      |none =>
        have:=zrm hf j (jf.2 hj)
        cases hg:zny n steps t j with
        |true=>rfl
        |false=>rw [hg] at this;simp at this
theorem yie {n:Net} {steps:Int} {t:List Rule} (h:(zm2 n steps t).2=0):∀ r,r∈t->zhp n steps r=true:=by
  intro r hr;obtain ⟨j,hj,rfl⟩:=lq hr;have:=(z53 h).2 j hj;unfold zny at this;rw [eh,ef hj] at this;simp only [d8] at this;exact this.1
theorem zt0 {n:Net} {steps:Int} {r:Rule} (h:zhp n steps r=true):zak r.mat=true:=by
  unfold zhp at h;simp only [d8] at h;exact h.2.1
theorem znz {α:Type} {L:Nat->Int->List α->Nat->Option (List α×Nat)} (n:Nat) (v:Nat->α) (a0:List α) (hn:n<big) (hs:∀ m (j:Nat) l,j<n->l.length=a0.length+j->L (m+1) (j:Int) l l.length=L m (d9.wrap ((j:Int)+1)) (l++[v j]) (l.length+1)) (he:∀ m l,L (m+1) (n:Int) l l.length=some (l,l.length)) {k:Nat} (hk:n<k):L k 0 a0 a0.length=some (a0++(i7 n).map v,a0.length+n):=by
  have key:∀ (m j:Nat),j<=n->n - j<m->L m (j:Int) (a0++(i7 j).map v) (a0++(i7 j).map v).length=some (a0++(i7 n).map v,a0.length+n):=by
    intro m
    induction m with
    |zero=>intro j h1 h2;omega
    |succ m ih =>
      intro j h1 h2;rcases ko j n with h|h
      . rw [hs m j _ h (by simp),zcu j (by simp only [big] at hn;omega)];have:=ih (j+1) (by omega) (by omega);have e3:(a0++(i7 j).map v++[v j]).length=(a0++(i7 j).map v).length+1:=by rw [eu];rfl
        rw [List.range_succ,List.map_append,List.map_singleton,<- ey,e3] at this;exact this
      . obtain rfl:j=n:=by omega
        rw [he m _];simp
  have:=key k 0 (gb _) (by omega);rw [List.range_zero,List.map_nil,fp] at this;exact this
theorem zlo {α β:Type} [Inhabited α] (l:List α) (f:α->β):(i7 l.length).map (fun j=>f (l.getD j default))=l.map f:=by
  apply List.ext_getElem
  . simp
  . intro i h1 h2;simp only [l6,List.getElem_range];rw [eh,ef (by simpa using h2)];rfl
def z8z (k:Nat) (P:Pat) (F:Pat->Pat):Prop:=∀ m,zak m=true->zgf k P m=some (F m)/\zqn k P m=some (F m)/\zak (F m)=true
theorem thenF {k:Nat} {P:Pat} (hP:zak P=true) (hk:160<k):∃ F,z8z k P F:=by
  refine ⟨fun m=>if h:zak m=true then Classical.choose (yeh hP h hk) else m,fun m hm=>?_⟩;simp only [dif_pos hm];exact Classical.choose_spec (yeh hP hm hk)
def zn5 (F:Pat->Pat) (a:Alt):Alt:=⟨a.link,F a.mod⟩
def zx2 (F:Pat->Pat) (l:List (List Alt)):List (List Alt):=l.map fun x=>x.map (zn5 F)
def zvz (l:List (List Alt)):Prop:=l.length<=16/\∀ x,x∈l->x.length<=8/\∀ a,a∈x->zak a.mod=true
section
variable {k:Nat} {s:Spot} {F:Pat->Pat} (hF:z8z k (spP s) F) (hk:big<=k)
include hF hk
theorem z1u {l:List (List Alt)} (hl:zvz l):zik k l s.port s.tag=some (zx2 F l):=by
  have inner:∀ i (h:i<l.length),zdv k l s.port s.tag (i:Int) k 0 [] 0=some (l[i].map (zn5 F),l[i].length):=by
    intro i h;obtain ⟨h8,hm⟩:=hl.2 _ (ft h)
    have:=znz (L:=zdv k l s.port s.tag (i:Int)) l[i].length (fun j=>zn5 F (l[i].getD j default)) [] (by simp only [big];omega) (fun m j acc hj ha=>by
      simp only [gd,f6] at ha;rw [zdv,zAc ⟨by omega,zae h⟩,zca h,zAc (zae hj),zAc ⟨by omega,zae hj⟩,zca hj];unfold zuy;rw [zvl,dz,dz];have he:(⟨s.port,s.tag⟩:Spot)=s:=rfl;rw [he,(hF _ (hm _ (ft hj))).2.1,dz,zAc (by omega),eh,ef hj]
      rfl) (fun m acc=>by rw [zdv,zAc ⟨by omega,zae h⟩,zca h,zAd (by omega)]) (k:=k) (by simp only [big] at hk;omega)
    rw [zlo,fb,gd,f6] at this;exact this
  unfold zik
  have:=znz (L:=zdw k l s.port s.tag) l.length (fun j=>(l.getD j default).map (zn5 F)) [] (by have:=hl.1;simp only [big];omega) (fun m j acc hj ha=>by
    simp only [gd,f6] at ha;have:=hl.1;rw [zdw,zAc (zae hj)];have e:=inner j hj;rw [e,dz,zAc (by simp),zAc (by omega),dz,eh,ef hj]
    rfl) (fun m acc=>by rw [zdw,zAd (by omega)]) (k:=k) (by have:=hl.1;simp only [big] at hk;omega)
  rw [zlo (f:=fun x:List Alt=>x.map (zn5 F)),fb,gd,f6] at this;have e:(zdw k l s.port s.tag k 0 [] 0:Option (List (List Alt)×Nat))=_:=this;rw [e,dz,zAc (by simp)];rfl
theorem ysw (CL:List Rule×List Int) (i2 i3:Int) {li:List Alt} (hli:gx ((gx CL.1 i2).outs) i3=li) (h8:li.length<=8) (hm:∀ a,a∈li->zak a.mod=true):ze9 k CL (spP s) i2 i3 k 0 li=some (li.map (zn5 F)):=by
  have key:∀ (m j:Nat),j<=li.length->li.length - j<m->ze9 k CL (spP s) i2 i3 m (j:Int) ((li.take j).map (zn5 F)++li.drop j)=some (li.map (zn5 F)):=by
    intro m
    induction m with
    |zero=>intro j h1 h2;omega
    |succ m ih =>
      intro j h1 h2;rw [ze9,hli];rcases ko j li.length with h|h
      . have hlen:((li.take j).map (zn5 F)).length=j:=by simp;omega
        have hd:((li.take j).map (zn5 F)++li.drop j).getD j default=li[j]:=by
          rw [eh,gm (by omega),hlen,ln,js,Nat.add_zero,ef h];rfl
        rw [zAc (zae h),zAc ⟨by omega,zae h⟩,zAc (by simp;omega),pf,hd,(hF _ (hm _ (ft h))).1,dz,zcu j (by omega)]
        have e:((li.take j).map (zn5 F)++li.drop j).set j (zn5 F li[j])=(li.take (j+1)).map (zn5 F)++li.drop (j+1):=by
          rw [re _ _ (by omega),hlen,ln,i8 h,ku,<- List.take_append_getElem h,List.map_append,ey];rfl
        have:=ih (j+1) (by omega) (by omega);rw [<- e] at this;exact this
      . obtain rfl:j=li.length:=by omega
        rw [zAd (by omega),oh,fp,pl]
  have:=key k 0 (gb _) (by simp only [big] at hk;omega);rw [List.take_zero,List.map_nil,fb,fl] at this;exact this
theorem ysx (CL:List Rule×List Int) (i2:Int) (hl:zvz (gx CL.1 i2).outs):zec k CL (spP s) i2 k 0 [] 0=some (zx2 F (gx CL.1 i2).outs,(gx CL.1 i2).outs.length):=by
  have:=znz (L:=zec k CL (spP s) i2) (gx CL.1 i2).outs.length (fun j=>((gx CL.1 i2).outs.getD j default).map (zn5 F)) [] (by have:=hl.1;simp only [big];omega) (fun m j acc hj ha=>by
    simp only [gd,f6] at ha;have h16:=hl.1;obtain ⟨h8,hm⟩:=hl.2 _ (ft hj);rw [zec,zAc (zae hj),zAc ⟨by omega,zae hj⟩,zAc (by rw [zca hj];omega)];have e:=ysw hF hk CL i2 (j:Int) (zca hj) h8 hm;rw [zca hj,e,dz,zAc (by simp),zAc (by omega),dz,eh,ef hj]
    rfl) (fun m acc=>by rw [zec,zAd (by omega)]) (k:=k) (by have:=hl.1;simp only [big] at hk;omega)
  rw [zlo (f:=fun x:List Alt=>x.map (zn5 F)),fb,gd,f6] at this;exact this
end
def zn6 (F:Pat->Pat) (back first:Int) (CL:List Rule) (i:Nat):Rule:=⟨0,spP ⟨back,first+1+(i:Int)⟩,(CL.getD i default).step,zx2 F (CL.getD i default).outs⟩
section
variable {k:Nat} {m_:Offl} {F:Pat->Pat} {CL:List Rule} (hF:z8z k (spP ⟨m_.port,m_.tag⟩) F) (hk:big<=k) (hf:1<=m_.first/\m_.first<=65535) (hc:∀ r,r∈CL->zvz r.outs) (hn:CL.length<=4000)
include hF hk hf hc hn
theorem ymk (j:Nat) (h:j<=100000):d9.wrap (d9.wrap (m_.first+1)+(j:Int))=m_.first+1+(j:Int):=by
  rw [wr64 (n:=m_.first+1) (by omega),wr64 (by omega)]
theorem ysy (o:List Int) (a0:List Rule) (ha:a0.length<=4001):zed k m_ (CL,o) (spP ⟨m_.port,m_.tag⟩) k 0 a0 a0.length=some (a0++(i7 CL.length).map (zn6 F m_.back m_.first CL),a0.length+CL.length):=by
  refine znz (L:=zed k m_ (CL,o) (spP ⟨m_.port,m_.tag⟩)) CL.length _ a0 (by simp only [big];omega) (fun m j acc hj hacc=>?_) (fun m acc=>?_) (by simp only [big] at hk;omega)
  . have hr:zvz (gx (CL,o).1 (j:Int)).outs:=by
      rw [zca (l:=CL) hj];exact hc _ (ft hj)
    rw [zed,zAc (zae (b:=CL.length) hj),zAc ⟨by omega,zae (b:=CL.length) hj⟩];have e:=ysx hF hk (CL,o) (j:Int) hr;rw [e,dz];unfold zbi;rw [dz,zAc (by unfold zx2;simp),zAc (by omega),dz,ymk hF hk hf hc hn j (by omega)];rfl
  . rw [zed,zAd (by show ¬ ((CL.length:Int)<(CL.length:Int));omega)]
theorem yr8 (a0:List Rule) (ha:a0.length<=4001):zhe k m_ CL k 0 a0 a0.length=some (a0++(i7 CL.length).map (zn6 F m_.back m_.first CL),a0.length+CL.length):=by
  refine znz (L:=zhe k m_ CL) CL.length _ a0 (by simp only [big];omega) (fun m j acc hj hacc=>?_) (fun m acc=>?_) (by simp only [big] at hk;omega)
  . have hr:zvz (gx CL (j:Int)).outs:=by
      rw [zca (l:=CL) hj];exact hc _ (ft hj)
    rw [zhe,zAc (zae hj),zvl,dz,zAc ⟨by omega,zae hj⟩];have e:=z1u (s:=⟨m_.port,m_.tag⟩) hF hk hr;have e2:zik k (gx CL (j:Int)).outs m_.port m_.tag=_:=e;rw [e2,dz,zAc (by omega),ymk hF hk hf hc hn j (by omega)];rfl
  . rw [zhe,zAd (by omega)]
end
theorem zuh (CL:List Rule) (r:Rule):0<=zha CL r/\zha CL r<=(CL.length:Int):=by
  unfold zha;split
  . next h =>
    have h2:¬ idxB (fun x=>simB x r) CL<0:=fun e=>zox.1 e h;have:=zq8 h2;omega
  . omega
def zm5 (m_:Offl) (CL:List Rule) (r:Rule):Rule:=⟨0,⟨r.mat.mask,(r.mat.bits.set 0 m_.out).set 9 m_.first⟩,-1,if zep r=true then [] else [[⟨m_.back,spP ⟨m_.back,m_.first+1+zha CL r⟩⟩]]⟩
def numT (t:List Rule):List Rule:=(i7 t.length).map fun i=>({ t.getD i default with prio:=(t.length:Int) - (i:Int) }:Rule)
theorem zkq (t:List Rule):(numT t).length=t.length:=by unfold numT;simp
theorem zt5 {t:List Rule} {i:Nat} (h:i<t.length):(numT t)[i]'(by rw [zkq];exact h)=({ t[i] with prio:=(t.length:Int) - (i:Int) }:Rule):=by
  unfold numT;simp only [l6,List.getElem_range];rw [eh,ef h];rfl
theorem ztj {k:Nat} {t:List Rule} (ht:t.length<=10000) (hk:big<=k):zew k t.length t=some (numT t):=by
  have key:∀ (m j:Nat),j<=t.length->t.length - j<m->zb6 k t.length m (j:Int) ((numT t).take j++t.drop j)=some (numT t):=by
    intro m
    induction m with
    |zero=>intro j h1 h2;omega
    |succ m ih =>
      intro j h1 h2;rw [zb6];have hl:=zkq t;rcases ko j t.length with h|h
      . have hlen:((numT t).take j).length=j:=by rw [gi];omega
        have hd:((numT t).take j++t.drop j).getD j default=t[j]:=by
          rw [eh,gm (by omega),hlen,ln,js,Nat.add_zero,ef h];rfl
        rw [zAc (zae h),zAc ⟨by omega,zae h⟩,zAc (by rw [eu,hlen,List.length_drop];omega),pf,hd,zcu j (by omega),wr64 (n:=(t.length:Int) - (j:Int)) (by omega)]
        have e:((numT t).take j++t.drop j).set j { t[j] with prio:=(t.length:Int) - (j:Int) }=(numT t).take (j+1)++t.drop (j+1):=by
          rw [re _ _ (by omega),hlen,ln,i8 h,ku,<- List.take_append_getElem (by omega:j<(numT t).length),zt5 h,ey];rfl
        have:=ih (j+1) (by omega) (by omega);rw [<- e] at this;exact this
      . obtain rfl:j=t.length:=by omega
        rw [zAd (by omega),oh,fp,gc (by omega)]
  unfold zew;have:=key k 0 (gb _) (by simp only [big] at hk;omega);rw [List.take_zero,fb,fl] at this;have e:(zb6 k t.length k 0 t:Option (List Rule))=_:=this;rw [e,dz,zAc (zkq t)]
theorem zs7 {k:Nat} {t:List Rule} (ht:t.length<=10000) (hk:big<=k):zjf k t=some (numT t):=by
  unfold zjf
  have:=znz (L:=zd6 k t) t.length (fun i=>({ t.getD i default with prio:=(t.length:Int) - (i:Int) }:Rule)) [] (by simp only [big];omega) (fun m j acc hj ha=>by
    simp only [gd,f6] at ha;rw [zd6,zAc (zae hj),zAc ⟨by omega,zae hj⟩,zAc (by omega),wr64 (n:=(t.length:Int) - (j:Int)) (by omega)]
    rfl) (fun m acc=>by rw [zd6,zAd (by omega)]) (k:=k) (by simp only [big] at hk;omega)
  rw [fb,gd,f6] at this;have e:(zd6 k t k 0 [] 0:Option (List Rule×Nat))=_:=this;rw [e,dz,zAc (by simp)];rfl
def z6v (t:List Rule) (back first:Int) (n:Nat):Bool:=(i7 n).any fun j=>zpa t ⟨back,first+1+(j:Int)⟩
section
variable {k:Nat} {c:zbc} {m_:Offl} {CL:List Rule} (hk:big<=k) (hf:1<=m_.first/\m_.first<=65535 - (CL.length:Int)) (hr:∀ r,r∈gx c.tables m_.node->zak r.mat=true) (hl:(gx c.tables m_.node).length<big) (hb:zbf m_.back=true)
include hk hf hr hl hb
theorem yrw {j:Nat} (h:j<CL.length):zbf (m_.first+1+(j:Int))=true/\d9.wrap (d9.wrap (m_.first+1)+(j:Int))=m_.first+1+(j:Int):=by
  refine ⟨zAa ⟨by omega,by omega⟩,?_⟩;rw [wr64 (n:=m_.first+1) (by omega),wr64 (by omega)]
theorem ysz (o:List Int) (u:Bool):zee k c m_ (CL,o) k u 0=some (u || z6v (gx c.tables m_.node) m_.back m_.first CL.length):=by
  have key:∀ (m j:Nat) (u:Bool),j<=CL.length->CL.length - j<m->zee k c m_ (CL,o) m u (j:Int)=some (u || (List.range' j (CL.length - j)).any fun j=>zpa (gx c.tables m_.node) ⟨m_.back,m_.first+1+(j:Int)⟩):=by
    intro m
    induction m with
    |zero=>intro j u h1 h2;omega
    |succ m ih =>
      intro j u h1 h2;rw [zee];show (if (j:Int)<(CL.length:Int) then _ else _)=_;rcases ko j CL.length with h|h
      . obtain ⟨t1,t2⟩:=yrw hk hf hr hl hb h;rw [zAc (zae h),show CL.length - j=(CL.length - (j+1))+1 by omega,ne,ot,zcu j (by omega)]
        cases u with
        |true=>rw [zAc rfl,ih (j+1) true (by omega) (by omega)];simp
        |false =>
          rw [zAd (by simp),t2];have e:=z5h (s:=⟨m_.back,m_.first+1+(j:Int)⟩) hr hl hb t1 hk;rw [e,dz,ih (j+1) _ (by omega) (by omega),ib]
      . obtain rfl:j=CL.length:=by omega
        rw [zAd (by omega),ln];simp
  have:=key k 0 u (gb _) (by simp only [big] at hk;omega);rw [Nat.sub_zero,<- ma] at this;exact this
theorem yr9 (u:Bool):zhf k c m_ CL k u 0=some (u || z6v (gx c.tables m_.node) m_.back m_.first CL.length):=by
  have key:∀ (m j:Nat) (u:Bool),j<=CL.length->CL.length - j<m->zhf k c m_ CL m u (j:Int)=some (u || (List.range' j (CL.length - j)).any fun j=>zpa (gx c.tables m_.node) ⟨m_.back,m_.first+1+(j:Int)⟩):=by
    intro m
    induction m with
    |zero=>intro j u h1 h2;omega
    |succ m ih =>
      intro j u h1 h2;rw [zhf];rcases ko j CL.length with h|h
      . obtain ⟨t1,t2⟩:=yrw hk hf hr hl hb h;rw [zAc (zae h),show CL.length - j=(CL.length - (j+1))+1 by omega,ne,ot,zcu j (by omega),t2];have e:=z31 (s:=⟨m_.back,m_.first+1+(j:Int)⟩) hr hl hb t1 hk;have e2:zjn k (gx c.tables m_.node) m_.back (m_.first+1+(j:Int))=_:=e;rw [e2,dz]
        cases u with
        |true=>rw [zAc rfl,ih (j+1) true (by omega) (by omega)];simp
        |false=>rw [zAd (by simp),ih (j+1) _ (by omega) (by omega),ib]
      . obtain rfl:j=CL.length:=by omega
        rw [zAd (by omega),ln];simp
  have:=key k 0 u (gb _) (by simp only [big] at hk;omega);rw [Nat.sub_zero,<- ma] at this;exact this
end
section
variable {k:Nat} {c:zbc} {m_:Offl} {CL:List Rule} {B:List Int} (hk:big<=k) (hf:1<=m_.first/\m_.first<=65535) (hn:CL.length<=4000) (hB:∀ i,i∈B->0<=i/\i<((gx c.tables m_.node).length:Int)) (hBl:B.length<=4000)
include hk hf hn hB hBl
theorem yo2 (r:Rule):d9.wrap (d9.wrap (m_.first+1)+zha CL r)=m_.first+1+zha CL r:=by
  have:=zuh CL r;rw [wr64 (n:=m_.first+1) (by omega),wr64 (by omega)]
theorem ysv (p q:Int) (b:Bool) (u:List Rule) (hu:u.length<=4000):zds k c m_ ((⟨p,q,B⟩:ze2),b) (CL,(zam (gx c.tables m_.node) B).map fun r=>if zep r=true then -1 else zha CL r) k 0 u u.length=some (u++(zam (gx c.tables m_.node) B).map (zm5 m_ CL),u.length+B.length):=by
  have hrl:(zam (gx c.tables m_.node) B).length=B.length:=by unfold zam;simp
  have:=znz (L:=zds k c m_ ((⟨p,q,B⟩:ze2),b) (CL,(zam (gx c.tables m_.node) B).map fun r=>if zep r=true then -1 else zha CL r)) B.length (fun j=>zm5 m_ CL ((zam (gx c.tables m_.node) B).getD j default)) u (by simp only [big];omega) (fun m j acc hj ha=>by
    have hq:=hB _ (ft hj);rw [zds];show (if (j:Int)<(B.length:Int) then _ else _)=_;have hg:gx (α:=Int) ((⟨p,q,B⟩:ze2),b).1.rules (j:Int)=B[j]:=zca hj
    have ho:gx ((zam (gx c.tables m_.node) B).map fun r=>if zep r=true then -1 else zha CL r) (j:Int)=if zep (gx (gx c.tables m_.node) B[j])=true then -1 else zha CL (gx (gx c.tables m_.node) B[j]):=by
      rw [zca (by rw [ek,hrl];exact hj),l6];unfold zam;rw [l6]
    have hv:(zam (gx c.tables m_.node) B).getD j default=gx (gx c.tables m_.node) B[j]:=by
      rw [eh,ef (by rw [hrl];exact hj)];unfold zam;rw [l6];rfl
    rw [zAc (zae hj),zAc ⟨by omega,zae hj⟩,hg,zAc hq,zAc (by omega),zAc (by omega),zAc ⟨by omega,by rw [ek,hrl];exact zae hj⟩,ho,hv];generalize gx (gx c.tables m_.node) B[j]=r;have hc:=zuh CL r;unfold zm5;by_cases hd:zep r=true
    . rw [zAc hd,zAd (by omega),zAc (by omega),zAc hd]
    . rw [zAd hd,zAc hc.1,yo2 hk hf hn hB hBl,zAd hd];unfold zll zbi;rw [dz,dz,zAc (by omega)]
      rfl) (fun m acc=>by rw [zds];exact zAd (by show ¬ ((B.length:Int)<(B.length:Int));omega)) (k:=k) (by simp only [big] at hk;omega)
  rw [<- hrl,zlo (f:=zm5 m_ CL),hrl] at this;exact this
theorem yr7 (hc:∀ x,x∈CL->zia x) (u:List Rule) (hu:u.length<=4000):zfz k c m_ B CL k 0 u u.length=some (u++(zam (gx c.tables m_.node) B).map (zm5 m_ CL),u.length+B.length):=by
  have hrl:(zam (gx c.tables m_.node) B).length=B.length:=by unfold zam;simp
  have:=znz (L:=zfz k c m_ B CL) B.length (fun j=>zm5 m_ CL ((zam (gx c.tables m_.node) B).getD j default)) u (by simp only [big];omega) (fun m j acc hj ha=>by
    have hq:=hB _ (ft hj)
    have hv:(zam (gx c.tables m_.node) B).getD j default=gx (gx c.tables m_.node) B[j]:=by
      rw [eh,ef (by rw [hrl];exact hj)];unfold zam;rw [l6];rfl
    rw [zfz,zAc (zae hj),zAc ⟨by omega,zae hj⟩,zca hj,zAc hq,zAc (by omega),zAc (by omega),(z2h k _).2,dz,hv];generalize gx (gx c.tables m_.node) B[j]=r;have hdd:decide (r.step=-1/\r.outs.length=0)=zep r:=rfl;show (if decide (r.step=-1/\r.outs.length=0)=true then _ else _)=_;rw [hdd];unfold zm5;by_cases hd:zep r=true
    . rw [zAc hd,zAc (by omega),zAc hd]
    . rw [zAd hd,zAd hd];show Option.bind (zhd k CL r) _=_;rw [z32 CL r hc (by simp only [big];omega) hk,dz,yo2 hk hf hn hB hBl];unfold znc zuy
      rw [zvl,dz,dz,dz,zAc (by omega)]) (fun m acc=>by rw [zfz,zAd (by omega)]) (k:=k) (by simp only [big] at hk;omega)
  rw [<- hrl,zlo (f:=zm5 m_ CL),hrl] at this;exact this
end
theorem yd7 (k:Nat) (a b:Int):zcn k a b=some (decide (0<=a/\a<b)):=by
  unfold zcn;by_cases h:0<=a
  . rw [zAc h];congr 1;rw [decide_eq_decide];exact ⟨fun x=>⟨h,x⟩,fun x=>x.2⟩
  . rw [zAd h];congr 1;exact (zAb fun x=>h x.1).symm
def InR (n:Net) (m_:Offl):Prop:=(0<=m_.node/\m_.node<(n.nodes.length:Int))/\(0<=m_.out/\m_.out<(n.links.length:Int))/\(0<=m_.back/\m_.back<(n.links.length:Int))/\(0<=m_.port/\m_.port<65536)/\(0<=m_.tag/\m_.tag<65536)
instance (n:Net) (m_:Offl):Decidable (InR n m_):=by unfold InR;infer_instance
theorem zg1 {b:Bool} {P:Prop} [Decidable P] (h:b=true↔¬ P):some b=some (!decide P):=by
  congr 1;by_cases hp:P
  . rw [zAa hp]
    cases b with
    |false=>rfl
    |true=>exact absurd hp (h.1 rfl)
  . rw [zAb hp];exact h.2 hp
theorem yh6 (k:Nat) (n:Net) (m_:Offl):((zcn k m_.node (n.nodes.length:Int)).bind fun r1=>(if r1=true then ((zcn k m_.out (n.links.length:Int)).bind fun r12=>(if r12=true then ((zcn k m_.back (n.links.length:Int)).bind fun r13=>(if r13=true then ((zcn k m_.port 65536).bind fun r14=>(if r14=true then ((zcn k m_.tag 65536).bind fun r15=>some (!r15)) else some true)) else some true)) else some true)) else some true))=some (!decide (InR n m_)):=by
  simp only [yd7,dz,decide_eq_true_eq];unfold InR;split
  . split
    . split
      . split
        . rename_i a b c d;refine zg1 ⟨fun h=>?_,fun h=>?_⟩
          . simp only [ny,decide_eq_false_iff_not] at h;exact fun x=>h x.2.2.2.2
          . simp only [ny,decide_eq_false_iff_not];exact fun x=>h ⟨a,b,c,d,x⟩
        . rename_i w;exact zg1 ⟨fun _ x=>w x.2.2.2.1,fun _=>rfl⟩
      . rename_i w;exact zg1 ⟨fun _ x=>w x.2.2.1,fun _=>rfl⟩
    . rename_i w;exact zg1 ⟨fun _ x=>w x.2.1,fun _=>rfl⟩
  . rename_i w;exact zg1 ⟨fun _ x=>w x.1,fun _=>rfl⟩
theorem yh5 (n:Net) (m_:Offl):(if m_.node<0 then some true else (if (n.nodes.length:Int)<=m_.node then some true else (if m_.out<0 then some true else (if (n.links.length:Int)<=m_.out then some true else (if m_.back<0 then some true else (if (n.links.length:Int)<=m_.back then some true else (if m_.port<0 then some true else (if 65535<m_.port then some true else (if m_.tag<0 then some true else some (decide (65535<m_.tag)))))))))))  = some (!decide (InR n m_)):=by
  unfold InR;repeat' split
  all_goals first
    |exact zg1 ⟨fun _ x=>by omega,fun _=>rfl⟩
    |exact zg1 ⟨fun h x=>by have:=zAe h;omega,fun h=>zAa (by omega)⟩
def ydv (n:Net) (m_:Offl):Prop:=(gx n.links m_.out).frm=m_.node/\(gx n.links m_.back).frm=(gx n.links m_.out).to/\(gx n.links m_.back).to=m_.node
instance (n:Net) (m_:Offl):Decidable (ydv n m_):=by unfold ydv;infer_instance
theorem ylt (n:Net) (m_:Offl):(if ((gx n.links m_.out).frm)≠m_.node then some true else (if ((gx n.links m_.back).frm)≠((gx n.links m_.out).to) then some true else some (decide (((gx n.links m_.back).to)≠m_.node))))=some (!decide (ydv n m_)):=by
  unfold ydv;repeat' split
  . next h=>exact zg1 ⟨fun _ x=>h x.1,fun _=>rfl⟩
  . next h=>exact zg1 ⟨fun _ x=>h x.2.1,fun _=>rfl⟩
  . next a b =>
    refine zg1 ⟨fun h x=>zAe h x.2.2,fun h=>zAa fun e=>h ⟨Decidable.of_not_not a,Decidable.of_not_not b,e⟩⟩
def tabA (F:Pat->Pat) (m_:Offl) (t:List Rule):List Rule:=(woL (bix t ⟨m_.port,m_.tag⟩) 0 t++[(⟨0,spP ⟨m_.port,m_.tag⟩,-1,[[⟨m_.out,spP ⟨m_.out,m_.first⟩⟩]]⟩:Rule)])++(i7 (zbz [] (zam t (bix t ⟨m_.port,m_.tag⟩))).length).map (zn6 F m_.back m_.first (zbz [] (zam t (bix t ⟨m_.port,m_.tag⟩))))
def tabB (m_:Offl) (t u:List Rule):List Rule:=u++(zam t (bix t ⟨m_.port,m_.tag⟩)).map (zm5 m_ (zbz [] (zam t (bix t ⟨m_.port,m_.tag⟩))))
structure yj9 (n:Net) (c:zbc) (m_:Offl) (F:Pat->Pat) (d:zbc):Prop where
  inr:InR n m_
  ends:ydv n m_
  some:bix (gx c.tables m_.node) ⟨m_.port,m_.tag⟩≠[]
  first:1<=m_.first/\m_.first<=65535 - ((zbz [] (zam (gx c.tables m_.node) (bix (gx c.tables m_.node) ⟨m_.port,m_.tag⟩))).length:Int)
  free:zpa (gx c.tables (gx n.links m_.out).to) ⟨m_.out,m_.first⟩=false
  used:z6v (gx c.tables m_.node) m_.back m_.first (zbz [] (zam (gx c.tables m_.node) (bix (gx c.tables m_.node) ⟨m_.port,m_.tag⟩))).length=false
  lenA:(tabA F m_ (gx c.tables m_.node)).length<=4000
  lenB:(tabB m_ (gx c.tables m_.node) (gx c.tables (gx n.links m_.out).to)).length<=4000
  eq:d=⟨c.version,(c.tables.set m_.node.toNat (numT (tabA F m_ (gx c.tables m_.node)))).set ((gx n.links m_.out).to).toNat (numT (tabB m_ (gx c.tables m_.node) (gx c.tables (gx n.links m_.out).to))),c.steps⟩
theorem zm0 {α:Type} [Inhabited α] {l:List α} {i:Int} (h:0<=i/\i<(l.length:Int)):gx l i∈l:=by
  obtain ⟨j,rfl⟩:∃ j:Nat,i=(j:Int):=⟨i.toNat,by omega⟩;rw [zca (by omega)];exact ft _
theorem yky {n:Net} {steps:Int} {r:Rule} (h:zhp n steps r=true):zia r/\zvz r.outs:=by
  unfold zhp at h;simp only [d8,decide_eq_true_eq,fd] at h;obtain ⟨_,_,h1,h2⟩:=h
  have key:∀ l,l∈r.outs->l.length<=8/\∀ a,a∈l->zak a.mod=true:=fun l hl=>by
    have:=h2 l hl;unfold fOut at this;simp only [d8,decide_eq_true_eq,fd] at this;refine ⟨this.1.2,fun a ha=>?_⟩;have:=this.2 a ha;unfold fAlt at this;simp only [d8] at this;exact this.2
  exact ⟨⟨by simp only [big];omega,fun l hl=>by have:=(key l hl).1;simp only [big];omega⟩,by omega,key⟩
theorem zgg {n:Net} {c:zbc} (h:znm n c=true):c.tables.length=n.nodes.length/\c.steps.length<=1000/\∀ t,t∈c.tables->t.length<=4000/\∀ r,r∈t->zhp n (c.steps.length:Int) r=true:=by
  unfold znm at h;simp only [d8,decide_eq_true_eq,fd] at h;exact ⟨h.1,h.2.1,fun t ht=>⟨(z53 (h.2.2 t ht)).1,yie (h.2.2 t ht)⟩⟩
theorem yrg {k:Nat} {n:Net} {c:zbc} {m_:Offl} (hk:big<=k) (hn:zh7 n) (hc:znm n c=true):∃ d e,zng k n c m_=some (d,e)/\z3f k n c m_=some ⟨d,e⟩/\((e≠0/\d=⟨0,[],[]⟩)\/(e=0/\∃ F,z8z k (spP ⟨m_.port,m_.tag⟩) F/\yj9 n c m_ F d)):=by
  obtain ⟨hc1,hc2,hc3⟩:=zgg hc;have hnn:=hn.nodes;have hnl:=hn.links;have hT:true=true:=rfl;have hF1:¬ (false=true):=by simp
  have hN:¬ ((!true)=true):=by simp
  have hM:(!false)=true:=rfl;unfold zng z3f;rw [yh6,yh5,dz,dz];by_cases q1:InR n m_
  rotate_left
  . rw [zAb q1,zAc hM,zAc hM];exact ⟨_,_,rfl,rfl,.inl ⟨by decide,rfl⟩⟩
  have q1':=q1;obtain ⟨p1,p2,p3,p4,p5⟩:=q1';rw [zAa q1,zAd hN,zAd hN,zAc p2,zAc p3,zAc p2,zAc p3,ylt,dz];by_cases q2:ydv n m_
  rotate_left
  . rw [zAb q2,zAc hM,dz,zAc hM];exact ⟨_,_,rfl,rfl,.inl ⟨by decide,rfl⟩⟩
  have hto:0<=(gx n.links m_.out).to/\(gx n.links m_.out).to<(c.tables.length:Int):=by
    have:=hn.to m_.out.toNat (by omega);have e:gx n.links m_.out=n.links.getD m_.out.toNat default:=rfl;rw [e,hc1];exact this
  have hno:0<=m_.node/\m_.node<(c.tables.length:Int):=by rw [hc1];exact p1
  obtain ⟨ta,tb⟩:=hc3 _ (zm0 hno);obtain ⟨ua,ub⟩:=hc3 _ (zm0 hto);have htr:∀ r,r∈gx c.tables m_.node->zak r.mat=true:=fun r hr=>zt0 (tb r hr);have hur:∀ r,r∈gx c.tables (gx n.links m_.out).to->zak r.mat=true:=fun r hr=>zt0 (ub r hr);have hport:zbf m_.port=true:=zAa ⟨p4.1,by omega⟩;have htag:zbf m_.tag=true:=zAa ⟨p5.1,by omega⟩;have hout:zbf m_.out=true:=zAa ⟨p2.1,by omega⟩;have hback:zbf m_.back=true:=zAa ⟨p3.1,by omega⟩;have hbunch:=z33 (k:=k) (s:=⟨m_.port,m_.tag⟩) htr (by omega) hport htag hk;have hbunch2:zhh k (gx c.tables m_.node) m_.port m_.tag=some (bix (gx c.tables m_.node) ⟨m_.port,m_.tag⟩):=hbunch;rw [zAa q2,zAd hN,dz,zAd hN,zAc hno,zAc hto,zAc hno,zAc hto,ylr htr (by omega) hk,hbunch2,dz,dz];have hBm:∀ i,i∈bix (gx c.tables m_.node) ⟨m_.port,m_.tag⟩->0<=i/\i<((gx c.tables m_.node).length:Int):=fun i hi=>z2w hi;have hBl:=yjr (gx c.tables m_.node) ⟨m_.port,m_.tag⟩;by_cases q3:bix (gx c.tables m_.node) ⟨m_.port,m_.tag⟩=[]
  . rw [zAc q3,zAd hF1,q3,zAc (show ((([]:List Int).length:Int)=0) from rfl)];exact ⟨_,_,rfl,rfl,.inl ⟨by decide,rfl⟩⟩
  have hokt:z7r (gx c.tables m_.node):=⟨by simp only [big];omega,fun r hr=>(yky (tb r hr)).1⟩;have hq3:¬ (((bix (gx c.tables m_.node) ⟨m_.port,m_.tag⟩).length:Int)=0):=fun h=>q3 (List.length_eq_zero_iff.1 (by omega));rw [zAd q3,zAc hT,zAd hq3];have e1:=z8d (k:=k) (b:=⟨m_.port,m_.tag,bix (gx c.tables m_.node) ⟨m_.port,m_.tag⟩⟩) hokt hBm (by show (bix _ _).length<=_;omega) hk;have e2:=zvk (k:=k) hokt hBm (by omega) hk;rw [e1,e2,dz,dz,zq4]
  have hcl:(zbz [] (zam (gx c.tables m_.node) (bix (gx c.tables m_.node) ⟨m_.port,m_.tag⟩))).length<=4000/\∀ r,r∈zbz [] (zam (gx c.tables m_.node) (bix (gx c.tables m_.node) ⟨m_.port,m_.tag⟩))->r∈gx c.tables m_.node:=by
    obtain ⟨e,h1,h2,h3⟩:=zgy (zam (gx c.tables m_.node) (bix (gx c.tables m_.node) ⟨m_.port,m_.tag⟩)) [];rw [fb] at h1;rw [h1];refine ⟨?_,fun r hr=>?_⟩
    . unfold zam at h2;rw [ek] at h2;omega
    . have:=h3 r hr;unfold zam at this;obtain ⟨i,hi,rfl⟩:=ip.1 this;exact zm0 (hBm i hi)
  obtain ⟨F,hF⟩:=thenF (k:=k) (P:=spP ⟨m_.port,m_.tag⟩) (zhx hport htag) (by simp only [big] at hk;omega);generalize hB0:bix (gx c.tables m_.node) ⟨m_.port,m_.tag⟩=B at *;generalize hC0:zbz [] (zam (gx c.tables m_.node) B)=CL at *;by_cases q4:1<=m_.first/\m_.first<=65535 - (CL.length:Int)
  rotate_left
  . have hg:(if m_.first<1 then some true else some (decide ((d9.wrap (65535 - (CL.length:Int)))<m_.first)))=some true:=by
      rw [wr64 (by omega)];split
      . rfl
      . rw [zAa (by omega)]
    rw [hg,dz,dz,zAc hT,zAc hT];exact ⟨_,_,rfl,rfl,.inl ⟨by decide,rfl⟩⟩
  have hg:(if m_.first<1 then some true else some (decide ((d9.wrap (65535 - (CL.length:Int)))<m_.first)))=some false:=by
    rw [wr64 (by omega),zAd (by omega),zAb (by omega)]
  have hfw:zbf m_.first=true:=zAa ⟨by omega,by omega⟩
  have e3:=z5h (k:=k) (s:=⟨m_.out,m_.first⟩) hur (by simp only [big];omega) hout hfw hk;have e4:=z31 (k:=k) (s:=⟨m_.out,m_.first⟩) hur (by simp only [big];omega) hout hfw hk;have e4':zjn k (gx c.tables (gx n.links m_.out).to) m_.out m_.first=_:=e4
  have e5:=ysz (k:=k) (c:=c) (m_:=m_) (CL:=CL) hk q4 htr (by simp only [big];omega) hback ((zam (gx c.tables m_.node) B).map fun r=>if zep r=true then -1 else zha CL r) (zpa (gx c.tables (gx n.links m_.out).to) ⟨m_.out,m_.first⟩);have e6:=yr9 (k:=k) (c:=c) (m_:=m_) (CL:=CL) hk q4 htr (by simp only [big];omega) hback (zpa (gx c.tables (gx n.links m_.out).to) ⟨m_.out,m_.first⟩);rw [hg,dz,dz,zAd hF1,zAd hF1,e3,e4',dz,dz,e5,e6,dz,dz];by_cases q5:(zpa (gx c.tables (gx n.links m_.out).to) ⟨m_.out,m_.first⟩ || z6v (gx c.tables m_.node) m_.back m_.first CL.length)=true
  . rw [zAc q5,zAc q5];exact ⟨_,_,rfl,rfl,.inl ⟨by decide,rfl⟩⟩
  rw [zAd q5,zAd q5];have hwl:=yd6 B (gx c.tables m_.node) 0;have hco:∀ r,r∈CL->zvz r.outs:=fun r hr=>(yky (tb r (hcl.2 r hr))).2;have hck:∀ r,r∈CL->zia r:=fun r hr=>(yky (tb r (hcl.2 r hr))).1;have e7:=z00 (k:=k) (t:=gx c.tables m_.node) (B:=B) ta (by simp only [big];omega) hk;have e8:=z7j (k:=k) (t:=gx c.tables m_.node) (B:=B) ta (by simp only [big];omega) hk;have hap:∀ (w:List Rule) (x:Rule),w.length+1=(w++[x]).length:=fun w x=>by simp
  have a1:=ysy (k:=k) (m_:=m_) (CL:=CL) hF hk ⟨q4.1,by omega⟩ hco hcl.1 ((zam (gx c.tables m_.node) B).map fun r=>if zep r=true then -1 else zha CL r) (woL B 0 (gx c.tables m_.node)++[(⟨0,spP ⟨m_.port,m_.tag⟩,-1,[[⟨m_.out,spP ⟨m_.out,m_.first⟩⟩]]⟩:Rule)]) (by rw [<- hap];omega);have a2:=yr8 (k:=k) (m_:=m_) (CL:=CL) hF hk ⟨q4.1,by omega⟩ hco hcl.1 (woL B 0 (gx c.tables m_.node)++[(⟨0,spP ⟨m_.port,m_.tag⟩,-1,[[⟨m_.out,spP ⟨m_.out,m_.first⟩⟩]]⟩:Rule)]) (by rw [<- hap];omega);have b1:=ysv (k:=k) (c:=c) (m_:=m_) (CL:=CL) (B:=B) hk ⟨q4.1,by omega⟩ hcl.1 hBm (by omega) m_.port m_.tag true (gx c.tables (gx n.links m_.out).to) ua;have b2:=yr7 (k:=k) (c:=c) (m_:=m_) (CL:=CL) (B:=B) hk ⟨q4.1,by omega⟩ hcl.1 hBm (by omega) hck (gx c.tables (gx n.links m_.out).to) ua;have sp:∀ s:Spot,zbi k s=some (spP s):=fun _=>rfl;have sd:zll k m_.out m_.first=some [[⟨m_.out,spP ⟨m_.out,m_.first⟩⟩]]:=rfl
  have so:znc k m_.out m_.first=some [[⟨m_.out,spP ⟨m_.out,m_.first⟩⟩]]:=by
    unfold znc zuy;rw [zvl];rfl
  rw [<- hap] at a1 a2;obtain ⟨TA,hTA⟩:∃ TA,TA=(woL B 0 (gx c.tables m_.node)++[(⟨0,spP ⟨m_.port,m_.tag⟩,-1,[[⟨m_.out,spP ⟨m_.out,m_.first⟩⟩]]⟩:Rule)])++(i7 CL.length).map (zn6 F m_.back m_.first CL):=⟨_,rfl⟩;obtain ⟨TB,hTB⟩:∃ TB,TB=gx c.tables (gx n.links m_.out).to++(zam (gx c.tables m_.node) B).map (zm5 m_ CL):=⟨_,rfl⟩;have lA:TA.length=(woL B 0 (gx c.tables m_.node)).length+1+CL.length:=by rw [hTA,eu,<- hap,ek,List.length_range]
  have lB:TB.length=(gx c.tables (gx n.links m_.out).to).length+B.length:=by rw [hTB];unfold zam;simp
  rw [<- hTA] at a1 a2;rw [<- hTB] at b1 b2;rw [<- lA] at a1 a2;rw [<- lB] at b1 b2
  have hu:(if (0+(gx c.tables (gx n.links m_.out).to).length)*201<=1000000000 then (if (gx c.tables (gx n.links m_.out).to).length=0 then some ([],0) else some (gx c.tables (gx n.links m_.out).to,(gx c.tables (gx n.links m_.out).to).length)) else none)=some (gx c.tables (gx n.links m_.out).to,(gx c.tables (gx n.links m_.out).to).length):=by
    rw [zAc (by omega)];split
    . next h=>rw [List.length_eq_zero_iff.1 h];rfl
    . rfl
  have hcu:(if (0+c.tables.length)*25<=1000000000 then (if c.tables.length=0 then some ([],0) else some (c.tables,c.tables.length)) else none)=some (c.tables,c.tables.length):=by
    rw [zAc (by omega)];split
    . next h=>omega
    . rfl
  have g1:((woL B 0 (gx c.tables m_.node)).length+1)*201<=1000000000:=by omega
  have g2:(gx c.tables (gx n.links m_.out).to).length*201<=1000000000:=by omega
  rw [e7,e8,dz,dz,sp,sd,zvl,so,dz,dz,dz,dz,dz,zAc g1,zAc g1];rw [a1,a2,dz,dz,zAc g2,hu,dz,b1,b2,dz,dz]
  have hlen:(if 4000<(TA.length:Int) then some true else some (decide (4000<(TB.length:Int))))=some (!decide (TA.length<=4000/\TB.length<=4000)):=by
    split
    . exact zg1 ⟨fun _ x=>by omega,fun _=>rfl⟩
    . exact zg1 ⟨fun h x=>by have:=zAe h;omega,fun h=>zAa (by omega)⟩
  rw [hlen,dz,dz];by_cases q6:TA.length<=4000/\TB.length<=4000
  rotate_left
  . rw [zAb q6,zAc hM,zAc hM];exact ⟨_,_,rfl,rfl,.inl ⟨by decide,rfl⟩⟩
  have n1:=ztj (k:=k) (t:=TA) (by omega) hk;have n2:=ztj (k:=k) (t:=TB) (by omega) hk;have n3:=zs7 (k:=k) (t:=TA) (by omega) hk;have n4:=zs7 (k:=k) (t:=TB) (by omega) hk;have g3:c.tables.length*25<=1000000000:=by omega
  have g4:m_.node.toNat<c.tables.length:=by omega
  have g5:((gx n.links m_.out).to).toNat<(c.tables.set m_.node.toNat (numT TA)).length:=by rw [lr];omega
  have g6:((c.tables.set m_.node.toNat (numT TA)).set ((gx n.links m_.out).to).toNat (numT TB)).length=c.tables.length:=by rw [lr,lr]
  rw [zAa q6,zAd hN,zAd hN,zAc g3,hcu,dz,n1,n2,dz,dz,zAc g4,zAc g5,zAc g6];have t1:TA.length=TA.length:=rfl;have t2:TB.length=TB.length:=rfl;rw [zAc t1,n3,dz,zAc hno,zAc g4,zAc t2,n4,dz,zAc hto,zAc g5,zAc g6];refine ⟨_,_,rfl,rfl,.inr ⟨rfl,F,hF,?_⟩⟩;have hA:tabA F m_ (gx c.tables m_.node)=TA:=by unfold tabA;rw [hB0,hC0,hTA]
  have hB:tabB m_ (gx c.tables m_.node) (gx c.tables (gx n.links m_.out).to)=TB:=by unfold tabB;rw [hB0,hC0,hTB]
  have q5':zpa (gx c.tables (gx n.links m_.out).to) ⟨m_.out,m_.first⟩=false/\z6v (gx c.tables m_.node) m_.back m_.first CL.length=false:=by
    cases h1:zpa (gx c.tables (gx n.links m_.out).to) ⟨m_.out,m_.first⟩<;>cases h2:z6v (gx c.tables m_.node) m_.back m_.first CL.length<;>simp [h1,h2] at q5 ⊢
  exact ⟨q1,q2,by rw [hB0];exact q3,by rw [hB0,hC0];exact q4,q5'.1,by rw [hB0,hC0];exact q5'.2,by rw [hA];exact q6.1,by rw [hB];exact q6.2,by rw [hA,hB]⟩
theorem zef {x:Int} (h:0<=x/\x<=65535):zbf x=true:=zAa h
theorem zr8 {a b:Int} (ha:zbf a=true) (hb:zbf b=true):zak (spP ⟨a,b⟩)=true:=zhx ha hb
theorem yji {n:Net} {steps:Int} {t:List Rule} (hs:0<=steps/\steps<=1000) (hl:t.length<=4000) (hg:∀ j,j<t.length->zny n steps t j=true):(zm2 n steps t).2=0:=by
  unfold zm2;rw [zAd (by omega),zAd (by omega)]
  have:(i7 t.length).findSome? (fun j=>if zny n steps t j=true then none else some ((j:Int),(1:Int)))=none:=by
    rw [List.findSome?_eq_none_iff];intro j hj;rw [zAc (hg j (jf.1 hj))]
  rw [this]
def core (n:Net) (steps:Int) (r:Rule):Prop:=zak r.mat=true/\(-1<=r.step/\r.step<steps/\r.outs.length<=16)/\r.outs.all (fOut n)=true
theorem z2k {n:Net} {steps:Int} {r:Rule} (h:zhp n steps r=true):core n steps r:=by
  unfold zhp at h;simp only [d8,decide_eq_true_eq] at h;exact ⟨h.2.1,h.2.2.1,h.2.2.2⟩
theorem ygw {n:Net} {steps:Int} {t:List Rule} (hs:0<=steps/\steps<=1000) (hl:t.length<=4000) (hc:∀ r,r∈t->core n steps r):(zm2 n steps (numT t)).2=0:=by
  refine yji hs (by rw [zkq];exact hl) fun j hj=>?_;have hj2:j<t.length:=by rw [zkq] at hj;exact hj
  have hg:(numT t).getD j default=({ t[j] with prio:=(t.length:Int) - (j:Int) }:Rule):=by
    rw [eh,ef hj,zt5 hj2];rfl
  unfold zny;rw [hg,d8];refine ⟨?_,zAa ?_⟩
  . obtain ⟨c1,c2,c3⟩:=hc _ (ft hj2);unfold zhp;simp only [d8,decide_eq_true_eq];exact ⟨by omega,c1,c2,c3⟩
  . show (t.length:Int) - (j:Int)<yhd (numT t) (j:Int);unfold yhd;split
    . omega
    . have e:(j:Int) - 1=((j - 1:Nat):Int):=by omega
      rw [e,zca (by omega),zt5 (by omega)];show _<(t.length:Int) - ((j - 1:Nat):Int);omega
theorem z18 (q:Rule->Bool):∀ (l:List Rule) (i x:Int),x∈idxF q l i->∃ j:Nat,j<l.length/\x=i+(j:Int)/\q (l.getD j default)=true
  |[],i,x,h=>by cases h
  |r :: l,i,x,h=>by
    rw [idxF] at h
    have key:x∈idxF q l (i+1)->∃ j:Nat,j<(r :: l).length/\x=i+(j:Int)/\q ((r :: l).getD j default)=true:=fun h=>by
      obtain ⟨j,h1,h2,h3⟩:=z18 q l (i+1) x h;exact ⟨j+1,by simp;omega,by omega,by simpa using h3⟩
    split at h
    . next hq =>
      rcases ic.1 h with rfl|h
      . exact ⟨0,by simp,by omega,by simpa using hq⟩
      . exact key h
    . exact key h
theorem yte {t:List Rule} {s:Spot} {i:Int} (h:i∈bix t s):qs s (gx t i)=true:=by
  unfold bix at h;split at h
  . cases h
  . obtain ⟨j,h1,h2,h3⟩:=z18 _ _ _ _ h;rw [h2,Int.zero_add];exact h3
theorem zmp:∀ (l acc:List Rule) (r:Rule),r∈l->¬ zep r=true->zkg (zbz acc l) r=true
  |x :: l,acc,r,h,hd=>by
    rcases ic.1 h with rfl|h
    . rw [zbz];by_cases hi:zkg acc r=true
      . rw [zAc (Or.inr hi)];obtain ⟨e,h1,_,_⟩:=zgy l acc;rw [h1];exact zwh hi
      . rw [zAd (fun h=>h.elim hd hi)];obtain ⟨e,h1,_,_⟩:=zgy l (acc++[r]);rw [h1];refine zwh ?_;unfold zkg;rw [List.any_append,ot,zu2,im,iq]
    . rw [zbz];split
      . exact zmp l _ r h hd
      . exact zmp l _ r h hd
theorem ybs {CL:List Rule} {r:Rule} (h:zkg CL r=true):zha CL r<(CL.length:Int):=by
  unfold zha;rw [zAc h];exact (zq8 (fun e=>zox.1 e h)).1
theorem z3n {p:Pat} {a b:Int} (hp:zak p=true) (h0:gx p.mask.l 0=65535) (h9:gx p.mask.l 9=65535) (ha:zbf a=true) (hb:zbf b=true):zak ⟨p.mask,(p.bits.set 0 a).set 9 b⟩=true:=by
  obtain ⟨pm,pb,pw⟩:=za5.1 hp
  have hget:∀ j:Nat,j<10->gx ((p.bits.set 0 a).set 9 b).l (j:Int)=if j=9 then b else if j=0 then a else gx p.bits.l (j:Int):=by
    intro j hj;by_cases j9:j=9
    . rw [zAc j9];subst j9;exact zf8 (i:=9) b (by omega)
    . rw [zAd j9];have e:=zix (a:=p.bits.set 0 a) (i:=9) (j:=j) b hj (fun h=>j9 h.symm);have e2:gx ((p.bits.set 0 a).set 9 b).l (j:Int)=gx (p.bits.set 0 a).l (j:Int):=e;rw [e2];by_cases j0:j=0
      . rw [zAc j0];subst j0;exact zf8 (i:=0) a (by omega)
      . rw [zAd j0];exact zix (i:=0) (j:=j) a hj (fun h=>j0 h.symm)
  refine za5.2 ⟨pm,zit fun j hj=>?_,fun i hi hb2=>?_⟩
  . show ∃ n:Nat,gx ((p.bits.set 0 a).set 9 b).l (j:Int)=(n:Int)/\n<65536;rw [hget j hj];split
    . exact zjr hb
    . split
      . exact zjr ha
      . exact zmh pb hj
  . show hbit p.mask i=true;have e:i=16*(i / 16)+(15 - (15 - i % 16)):=by omega
    by_cases j9:i / 16=9
    . rw [e];exact zrj (by omega) (by omega) (by rw [j9];exact h9)
    . by_cases j0:i / 16=0
      . rw [e];exact zrj (by omega) (by omega) (by rw [j0];exact h0)
      . refine pw i hi ?_;have hb3:hbit ((p.bits.set 0 a).set 9 b) i=true:=hb2;unfold hbit hw at hb3 ⊢;rw [hget (i / 16) (by omega),zAd j9,zAd j0] at hb3;exact hb3
theorem ybc {n:Net} {link tag:Int} (hl:0<=link/\link<(n.links.length:Int)) (h30:n.links.length<=30) (ht:zbf tag=true):fOut n [⟨link,spP ⟨link,tag⟩⟩]=true:=by
  unfold fOut fAlt;simp only [gz,ig,od,lc,d8,decide_eq_true_eq];exact ⟨by omega,by omega,zr8 (zef ⟨hl.1,by omega⟩) ht⟩
theorem yl2 {k:Nat} {P:Pat} {F:Pat->Pat} {n:Net} (hF:z8z k P F) {l:List (List Alt)} (h:l.all (fOut n)=true):(zx2 F l).all (fOut n)=true:=by
  rw [fd] at h ⊢;intro x hx;obtain ⟨y,hy,rfl⟩:=ip.1 hx;have:=h y hy;unfold fOut at this ⊢;simp only [d8,fd,ek] at this ⊢;refine ⟨this.1,fun a ha=>?_⟩;obtain ⟨b,hb,rfl⟩:=ip.1 ha;have:=this.2 b hb;unfold fAlt zn5 at *;simp only [d8] at this ⊢;exact ⟨this.1,(hF _ this.2).2.2⟩
section
variable {k:Nat} {n:Net} {c d:zbc} {m_:Offl} {F:Pat->Pat} (hn:zh7 n) (hc:znm n c=true) (hF:z8z k (spP ⟨m_.port,m_.tag⟩) F) (M:yj9 n c m_ F d)
include hn hc hF M
theorem yel:∀ r,r∈tabA F m_ (gx c.tables m_.node)->core n (c.steps.length:Int) r:=by
  obtain ⟨hc1,hc2,hc3⟩:=zgg hc;obtain ⟨p1,p2,p3,p4,p5⟩:=M.inr;obtain ⟨f1,f2⟩:=M.first
  have hnl:=hn.links;obtain ⟨ta,tb⟩:=hc3 _ (zm0 (show 0<=m_.node/\m_.node<(c.tables.length:Int) by rw [hc1];exact p1));intro r hr;unfold tabA at hr;rcases ov.1 hr with hr|hr
  . rcases ov.1 hr with hr|hr
    . exact z2k (tb r (z0t _ _ _ _ hr))
    . rw [jv] at hr;subst hr;refine ⟨zr8 (zef ⟨p4.1,by omega⟩) (zef ⟨p5.1,by omega⟩),⟨by show (-1:Int)<=-1;omega,by show (-1:Int)<_;omega,by simp⟩,?_⟩;rw [ig,od,lc];exact ybc p2 hnl (zAa ⟨by omega,by omega⟩)
  . obtain ⟨i,hi,rfl⟩:=ip.1 hr;rw [jf] at hi
    have hm:∀ x,x∈zbz [] (zam (gx c.tables m_.node) (bix (gx c.tables m_.node) ⟨m_.port,m_.tag⟩))->x∈gx c.tables m_.node:=fun x hx=>by
      obtain ⟨e,h1,h2,h3⟩:=zgy (zam (gx c.tables m_.node) (bix (gx c.tables m_.node) ⟨m_.port,m_.tag⟩)) [];rw [fb] at h1;rw [h1] at hx;have:=h3 x hx;unfold zam at this;obtain ⟨i,hi,rfl⟩:=ip.1 this;exact zm0 (z2w hi)
    generalize zbz [] (zam (gx c.tables m_.node) (bix (gx c.tables m_.node) ⟨m_.port,m_.tag⟩))=CL at *;obtain ⟨c1,c2,c3⟩:=z2k (tb _ (hm _ (zrh hi)));unfold zn6;refine ⟨zr8 (zef ⟨p3.1,by omega⟩) (zef ⟨by omega,by omega⟩),⟨c2.1,c2.2.1,?_⟩,yl2 hF c3⟩;show (zx2 F _).length<=16;unfold zx2;rw [ek];exact c2.2.2
theorem yek:∀ r,r∈tabB m_ (gx c.tables m_.node) (gx c.tables (gx n.links m_.out).to)->core n (c.steps.length:Int) r:=by
  obtain ⟨hc1,hc2,hc3⟩:=zgg hc;obtain ⟨p1,p2,p3,p4,p5⟩:=M.inr;obtain ⟨f1,f2⟩:=M.first
  have hnl:=hn.links;obtain ⟨ta,tb⟩:=hc3 _ (zm0 (show 0<=m_.node/\m_.node<(c.tables.length:Int) by rw [hc1];exact p1))
  have hto:0<=(gx n.links m_.out).to/\(gx n.links m_.out).to<(c.tables.length:Int):=by
    have:=hn.to m_.out.toNat (by omega);have e:gx n.links m_.out=n.links.getD m_.out.toNat default:=rfl;rw [e,hc1];exact this
  obtain ⟨ua,ub⟩:=hc3 _ (zm0 hto);intro r hr;unfold tabB at hr;rcases ov.1 hr with hr|hr
  . exact z2k (ub r hr)
  . obtain ⟨x,hx,rfl⟩:=ip.1 hr;have hcl:=fun h=>zmp (zam (gx c.tables m_.node) (bix (gx c.tables m_.node) ⟨m_.port,m_.tag⟩)) [] x hx h;have hx2:=hx;unfold zam at hx2;obtain ⟨i,hi,rfl⟩:=ip.1 hx2;have hq:=yte hi;have hcx:=z2k (tb _ (zm0 (z2w hi)));generalize zbz [] (zam (gx c.tables m_.node) (bix (gx c.tables m_.node) ⟨m_.port,m_.tag⟩))=CL at *;generalize gx (gx c.tables m_.node) i=x at *;obtain ⟨c1,c2,c3⟩:=hcx;unfold qs exB at hq;simp only [d8,decide_eq_true_eq] at hq;unfold zm5;have hfw:zbf m_.first=true:=zAa ⟨by omega,by omega⟩
    refine ⟨z3n c1 hq.1.1 hq.1.2 (zAa ⟨p2.1,by omega⟩) hfw,⟨by show (-1:Int)<=-1;omega,by show (-1:Int)<_;omega,?_⟩,?_⟩
    . show (if zep x=true then ([]:List (List Alt)) else _).length<=16;split<;>simp
    . show (if zep x=true then ([]:List (List Alt)) else _).all (fOut n)=true;split
      . rfl
      . next hd =>
        have h1:=ybs (hcl hd);have h2:=zuh CL x;rw [ig,od,lc];exact ybc p3 hnl (zAa ⟨by omega,by omega⟩)
theorem z7t:znm n d=true/\d.steps=c.steps:=by
  obtain ⟨hc1,hc2,hc3⟩:=zgg hc;have hA:=yel hn hc hF M;have hB:=yek hn hc hF M;have h1:=M.lenA;have h2:=M.lenB;have he:=M.eq;subst he;refine ⟨?_,rfl⟩;unfold znm at hc ⊢;simp only [d8,decide_eq_true_eq,fd,lr] at hc ⊢;refine ⟨hc.1,hc.2.1,fun t ht=>?_⟩;rcases List.mem_or_eq_of_mem_set ht with ht|rfl
  . rcases List.mem_or_eq_of_mem_set ht with ht|rfl
    . exact hc.2.2 t ht
    . exact ygw ⟨by omega,by omega⟩ h1 hA
  . exact ygw ⟨by omega,by omega⟩ h2 hB
end
def zob (m:Pat) (h:Ar 10):Ar 10:=(zif 11 m h).getD h
theorem zkc {m:Pat} {h:Ar 10} (hp:zak m=true) (hh:zag h=true):zqf m h (zob m h):=by
  obtain ⟨x,h1,h2⟩:=zsu hp hh (show 10<11 by decide);unfold zob;rw [h1];exact h2
theorem yc0 {k:Nat} {m:Pat} {h:Ar 10} (hp:zak m=true) (hh:zag h=true) (hk:160<k):zhj k m h=some (zob m h):=by
  obtain ⟨x,h1,h2⟩:=zvn hp hh hk;rw [h1,h2.uniq (zkc hp hh)]
/-! links that are up -/
def upB (n:Net) (f:zfp) (v:Int):Bool:=decide ((gx n.links v).frm≠f.node) && (decide ((gx n.links v).to≠f.node) && !decide (v∈f.links))
theorem ysa {k:Nat} (n:Net) (f:zfp) (v:Int) (hv:0<=v/\v<(n.links.length:Int)) (hl:f.links.length<big) (hk:big<=k):zr7 k n f v=some (upB n f v):=by
  unfold zr7 upB
  rw [zkr (L:=zhi k f v) f.links false (fun x=>!decide (x=v)) hl (fun m j h=>by
    rw [zhi,zAc (zae h),zAc ⟨by omega,zae h⟩,zca h];by_cases c:f.links[j]=v
    . rw [zAc c,zAd (by simp [c])]
    . rw [zAd c,zAc (by simp [c])]) (fun m=>by rw [zhi,zAd (by omega)]) (fh hl hk),dz]
  have e:(f.links.all fun x=>!decide (x=v))=!decide (v∈f.links):=by
    rw [Bool.eq_iff_iff];simp only [fd,ny,decide_eq_false_iff_not];constructor
    . intro h hm;exact h v hm rfl
    . rintro h x hx rfl;exact h hx
  rw [e];by_cases c0:v∈f.links
  . simp [c0]
  . simp only [zAb c0,gn,if_true,Sum.elim_inr,zAc hv,lc];by_cases c1:(gx n.links v).frm=f.node
    . rw [zAd (fun h=>h c1)];simp [c1]
    . rw [zAc c1];simp [c1]
def okA (n:Net) (f:zfp) (a:Alt):Bool:=decide (a.link<0) || upB n f a.link
theorem ya8 {α:Type} [Inhabited α] (q:α->Bool):∀ (l:List α),(l.find? q=none/\idxB q l=-1)\/∃ i:Nat,∃ h:i<l.length,idxB q l=(i:Int)/\l.find? q=some l[i]
  |[]=>.inl ⟨rfl,rfl⟩
  |x :: l=>by
    unfold idxB;rw [List.findIdx?_cons,List.find?_cons]
    cases hq:q x with
    |true=>exact .inr ⟨0,by simp,rfl,rfl⟩
    |false =>
      rcases ya8 q l with ⟨h1,h2⟩|⟨i,hi,h1,h2⟩
      . left;unfold idxB at h2;refine ⟨h1,?_⟩
        cases hf:l.findIdx? q with
        |none=>rfl
        |some j=>rw [hf] at h2;simp at h2;try omega
      . right;unfold idxB at h1;refine ⟨i+1,by simpa using hi,?_,by simpa using h2⟩
        cases hf:l.findIdx? q with
        |none=>rw [hf] at h1;simp at h1;try omega
        |some j=>rw [hf] at h1;simp at h1 ⊢;omega
def out1 (n:Net) (f:zfp) (h:Ar 10) (l:List Alt):Option (Ar 10):=(l.find? (okA n f)).map fun a=>zob a.mod h
def zni (n:Net) (f:zfp) (outs:List (List Alt)) (h:Ar 10):List (Ar 10):=outs.filterMap (out1 n f h)
structure z83 (n:Net) (r:Rule):Prop where
  len:r.outs.length<=16
  alts:∀ l,l∈r.outs->l.length<=8
  link:∀ l,l∈r.outs->∀ a,a∈l->a.link<(n.links.length:Int)
  mod:∀ l,l∈r.outs->∀ a,a∈l->zak a.mod=true
theorem zsq {n:Net} {steps:Int} {r:Rule} (h:zhp n steps r=true):z83 n r:=by
  unfold zhp at h;simp only [d8,decide_eq_true_eq] at h;obtain ⟨_,_,⟨_,_,h3⟩,h4⟩:=h;have h5:=fun l hl=>(fd.1 h4) l hl
  have h6:∀ l,l∈r.outs->(l.length<=8/\∀ a,a∈l->a.link<(n.links.length:Int)/\zak a.mod=true):=by
    intro l hl;have:=h5 l hl;unfold fOut at this;simp only [d8,decide_eq_true_eq] at this;refine ⟨this.1.2,fun a ha=>?_⟩;have h7:=(fd.1 this.2) a ha;unfold fAlt at h7;simp only [d8,decide_eq_true_eq] at h7;exact ⟨h7.1.2,h7.2⟩
  exact ⟨h3,fun l hl=>(h6 l hl).1,fun l hl a ha=>((h6 l hl).2 a ha).1,fun l hl a ha=>((h6 l hl).2 a ha).2⟩
theorem zpv {α β:Type} (g:α->Option β) {l:List α} {i:Nat} (h:i<l.length):(l.take (i+1)).filterMap g=(l.take i).filterMap g++(g l[i]).toList:=by
  rw [List.take_add_one,ef h,Option.toList_some,List.filterMap_append];cases hg:g l[i]<;>simp [hg]
theorem z5l {α β:Type} (g:α->Option β) (l:List α):(l.filterMap g).length<=l.length:=List.length_filterMap_le _ _
theorem ykr {k:Nat} (n:Net) (f:zfp) (r:Rule) (h:Ar 10) (hr:z83 n r) (hh:zag h=true) (hl:f.links.length<big) (hk:big<=k):zle k n f r h=some (zni n f r.outs h):=by
  have hr16:=hr.len
  -- one output
  have inner : ∀ (j : Nat) (hj : j < r.outs.length) (m i : Nat) (sent : Bool) (l : List (Ar 10)), i <= r.outs[j].length -> r.outs[j].length - i < m -> (sent = false -> l.length <= 19) ->
      ze5 k n f r h (j:Int) m sent (i:Int) l l.length=some (l++(if sent=true then [] else (out1 n f h (r.outs[j].drop i)).toList),(l++(if sent=true then [] else (out1 n f h (r.outs[j].drop i)).toList)).length):=by
    intro j hj m;have hx:=ft hj;have h8:=hr.alts _ hx
    induction m with
    |zero=>intro i sent l h1 h2;omega
    |succ m ih =>
      intro i sent l h1 h2 h20;rw [ze5,zAc ⟨by omega,zae hj⟩,zca hj];by_cases c:i<r.outs[j].length
      . rw [zAc (zae c),zAc ⟨by omega,zae c⟩,zca c,zcu i (by omega)];have hm:=ft c
        have hok:(if (r.outs[j][i]).link<0 then some true else ((zr7 k n f (r.outs[j][i]).link).bind fun rUp=>some rUp))=some (okA n f r.outs[j][i]):=by
          unfold okA;by_cases d:(r.outs[j][i]).link<0
          . rw [zAc d,zAa d];rfl
          . rw [zAd d,zAb d,ysa n f _ ⟨by omega,hr.link _ hx _ hm⟩ hl hk];rfl
        rw [hok,dz,i8 c];unfold out1;rw [List.find?_cons]
        cases ho:okA n f r.outs[j][i] with
        |false =>
          simp only [lj,if_false,dz];exact ih (i+1) sent l (by omega) (by omega) h20
        |true =>
          simp only [if_true,dz]
          cases sent with
          |true =>
            simp only [gp,lj,if_false];have:=ih (i+1) true l (by omega) (by omega) (fun hq=>by cases hq)
            simpa using this
          |false =>
            simp only [gn,if_true,lj,if_false];rw [yc0 (hr.mod _ hx _ hm) hh (by simp only [big] at hk;omega),dz,zAc (by have:=h20 rfl;omega)];have:=ih (i+1) true (l++[zob (r.outs[j][i]).mod h]) (by omega) (by omega) (fun hq=>by cases hq);rw [eu,gz] at this;rw [this];simp
      . rw [zAd (by omega),gu (by omega)];unfold out1;simp
  have key:∀ m j (l:List (Ar 10)),j<=r.outs.length->r.outs.length - j<m->l=(r.outs.take j).filterMap (out1 n f h)->ze6 k n f r h m (j:Int) l l.length=some (zni n f r.outs h,(zni n f r.outs h).length):=by
    intro m
    induction m with
    |zero=>intro i l h1 h2;omega
    |succ m ih =>
      intro j l h1 h2 h3;rw [ze6];by_cases c:j<r.outs.length
      . have hli:l.length<=j:=by rw [h3];exact Nat.le_trans (z5l _ _) (by rw [gi];omega)
        have h8:=hr.alts _ (ft c);have hin:=inner j c k 0 false l (gb _) (by simp only [big] at hk;omega) (fun _=>by omega);rw [show ((0:Nat):Int)=0 from rfl] at hin;rw [zAc (zae c),hin];simp only [dz,lj,if_false,fl];rw [zcu j (by omega)];refine ih (j+1) _ (by omega) (by omega) ?_;rw [zpv (out1 n f h) c,<- h3]
      . obtain rfl:j=r.outs.length:=by omega
        rw [zAd (by omega)];rw [pl] at h3;rw [h3];rfl
  unfold zle;have:=key k 0 [] (gb _) (by simp only [big] at hk;omega) rfl;change ze6 k n f r h k 0 [] 0=_ at this;rw [this,dz,zAc rfl]
/-! looking up -/
def ysm (t:List Rule) (h:Ar 10):Int:=idxB (fun r=>zdk r.mat h) t
theorem ycx {k:Nat} (t:List Rule) (h:Ar 10) (hp:∀ r,r∈t->zak r.mat=true) (hh:zag h=true) (hl:t.length<big) (hk:big<=k):zj0 k t h=some (ysm t h):=by
  unfold zj0;exact zju t (fun r=>zdk r.mat h) hl (fun m j hj=>by rw [zej,zAc (zae hj),zAc ⟨by omega,zae hj⟩,zca hj,yf4 (hp _ (ft hj)) hh (by simp only [big] at hk;omega),dz]) (fun m=>by rw [zej,zAd (by omega)]) (fh hl hk)
def zqs (k:Nat) (n:Net) (c:zbc) (most:Int):Option Bool:=(((if 10<(n.nodes.length:Int) then some true else (if 30<(n.links.length:Int) then some true else some (decide (20<(n.edges.length:Int))))):Option Bool).bind fun s_=>(if s_=true then some false else ((zli k n).bind fun bj=>((zqj k c most).bind fun bq=>(((if bj≠0 then some true else some (!bq)):Option Bool).bind fun s_2=>(if s_2=true then some false else ((zlc k n c).bind fun ap=>some ap)))))))
theorem z7b (ax:Axs) (hx:ydt ax) (k:Nat) (n:Net) (c:zbc) (most:Int) (v:Bool) (H:zqs k n c most=some v):Pure Tryz.prog (EE ax) [] 22 [eNet n,zg9 c,.int .i64 most] (.bool v):=by
 rw [zqs] at H;refine en [.tmp 6] 39 [0,1,2] (hx.no _ (by decide)) (fn22 ax) ?_;intro h hh;apply d6;refine rk [2,3,4] [] hh fun h hh=>?_;obtain ⟨s_,H1,H⟩:=zad H;repeat apply d6
 refine cu [2,3,4,24] 2 (fun h bs=>(h 2=.int .i64 most/\h 3=.ptr 0 0 3/\h 4=.ptr 1 0 3/\h 24=.bool s_)/\bs=[.cells true 3 [zax n.nodes,zay n.links,zaz n.edges],.cells true 3 [.int .i64 c.version,zau c.tables,zat c.steps]]) ?_ ?_
 .skip;rcases isp H1 with ⟨c1,H1⟩|⟨c1,H1⟩;rotate_left
  .skip;rcases isp H1 with ⟨c2,H1⟩|⟨c2,H1⟩;rotate_left
   .skip;refine rk [2,3,4,24] [] (f3 hh (zAb c1) (zAb c2)) fun h hh=>?_;cases H1;exact ce hh ⟨kq hh,rfl⟩
   refine rk [2,3,4,24] [] (f3 hh (zAb c1) (zAa c2)) fun h hh=>?_;cases H1;exact ce hh ⟨kq hh,rfl⟩
  refine rk [2,3,4,24] [] (f2 hh (zAa c1)) fun h hh=>?_;cases H1;exact ce hh ⟨kq hh,rfl⟩
 clear hh h;rintro h bs ⟨hh,rfl⟩;rcases isb H with ⟨c3,H⟩|⟨c3,H⟩;rotate_left
 .skip;refine cf (f2 hh c3) ?_;refine sk ?_;obtain ⟨bj,e4,H⟩:=zad H;apply d6;refine rkp [2,3,4,7] [] [.int .i64 bj] (f2 hh c3) ?_ ?_
  .exact ⟨ff (gq (z1i ax hx k n bj e4 ) (by first|rfl|simp only [c3])),trivial⟩
  clear hh h;intro h hh;obtain ⟨bq,e5,H⟩:=zad H;apply d6;refine rkp [3,4,7,8] [] [.bool bq] (f2 hh c3) ?_ ?_
  .exact ⟨ff (gq (z65 ax hx k c most bq e5 ) (by first|rfl|simp only [c3])),trivial⟩
  clear hh h;intro h hh;obtain ⟨s_2,H1,H⟩:=zad H;repeat apply d6
  refine cu [3,4,35] 2 (fun h bs=>(h 3=.ptr 0 0 3/\h 4=.ptr 1 0 3/\h 35=.bool s_2)/\bs=[.cells true 3 [zax n.nodes,zay n.links,zaz n.edges],.cells true 3 [.int .i64 c.version,zau c.tables,zat c.steps]]) ?_ ?_
  .skip;rcases isp H1 with ⟨c6,H1⟩|⟨c6,H1⟩;rotate_left
   .skip;refine rk [3,4,35] [] (f3 hh (zAb c6) c3) fun h hh=>?_;cases H1;exact ce hh ⟨kq hh,rfl⟩
   refine rk [3,4,35] [] (f3 hh (zAa c6) c3) fun h hh=>?_;cases H1;exact ce hh ⟨kq hh,rfl⟩
  clear hh h;rintro h bs ⟨hh,rfl⟩;rcases isb H with ⟨c7,H⟩|⟨c7,H⟩;rotate_left
  .skip;refine cf (f2 hh c7) ?_;refine sk ?_;obtain ⟨ap,e8,H⟩:=zad H;apply d6;refine rkp [6] [] [.bool ap] (f3 hh c3 c7) ?_ ?_
   .exact ⟨ff (gq (z1b ax hx k n c ap e8 ) (by first|rfl|simp only [c3,c7])),trivial⟩
   clear hh h;intro h hh;cases H;exact rt hh
  refine ct (f2 hh c7) ?_;apply d6;refine rk [6] [] (f3 hh c3 c7) fun h hh=>?_;cases H;exact rt hh
 refine ct (f2 hh c3) ?_;apply d6;refine rk [6] [] (f2 hh c3) fun h hh=>?_;cases H;exact rt hh
end Go.Proofs.YteifcnjpjjaikaaGreat
