/- Part 9 of the proof of FitKeepsPackets (several texts in one; no further condition). -/
import Derived.Test.YteifcnjpjjaikaaGreatZF
import Derived.Test.YteifcnjpjjaikaaGreatZH
set_option linter.unusedSimpArgs false
set_option linter.unusedVariables false
set_option linter.unusedSectionVars false
namespace Go.Proofs.YteifcnjpjjaikaaGreat
set_option maxHeartbeats 8000000
open _root_.And renaming intro->dx
open _root_.Bool renaming and_eq_true->d8,and_self->el,false_and->ng,false_or->ib,not_false->gn,not_true->gp,or_self->iy,or_true->iq,toNat_false->pn,true_or->im
open Go.Proofs.YteifcnjpjjaikaaGreat.Call renaming enter->sl
open _root_.Classical renaming byContradiction->mj
open Go.IntKind renaming i64->d9
open _root_.List renaming all_eq_true->fd,append_assoc->ey,append_nil->fp,cons_append->fq,drop_succ_cons->jp,drop_zero->fl,flatten_cons->gh,flatten_nil->fg,getD_eq_getElem?_getD->eh,getElem?_cons_succ->jo,getElem?_cons_zero->fx,getElem_mem->ft,length_append->eu,length_cons->ez,length_map->ek,length_nil->gd,length_singleton->gz,length_take->gi,map_congr_left->pz,map_cons->ge,mem_cons->ic,mem_map->ip,mem_range->jf,nil_append->fb,range->i7,replicate->ew,set_cons_succ->kb,set_cons_zero->ku,take_of_length_le->gc
open _root_.Nat renaming and_le_left->rc,eq_of_testBit_eq->n9,lt_of_le_of_lt->qi,lt_of_lt_of_le->fh,or_lt_two_pow->ql,reduceAdd->ed,reduceEqDiff->ee,reduceLT->fm,reduceLeDiff->jr,reduceMul->fy,reduceSub->gw,testBit_and->ke,testBit_or->nd,testBit_two_pow_sub_one->jw,zero_add->f6,zero_le->gb
open _root_.Option renaming bind_some->dz
open Go.Proofs.YteifcnjpjjaikaaGreat.Pure renaming clr->gq
open _root_.Sum renaming elim->i9
open Go.Proofs.YteifcnjpjjaikaaGreat.T renaming int->d7,lst->si,ren->py,renL->nu
open Go.Proofs.YteifcnjpjjaikaaGreat.TS renaming add_ne->o9,add_same->qj,set_ne->gy,set_same->iu
open Go.Proofs.YteifcnjpjjaikaaGreat.TW renaming block->fo,cond->qn,freeze->nf,loopT->iw,region->ji,ret->rj,seq->d6,skip->rz
open Go.Proofs.YteifcnjpjjaikaaGreat.zap renaming call->ff
open Go.Proofs.YteifcnjpjjaikaaGreat.zmw renaming one->qo
open Go.Proofs.YteifcnjpjjaikaaGreat.zpd renaming refl->pr
set_option maxRecDepth 100000
open Go Go.RowKit
def zfi (k:Nat) (i:Int):Nat->Int->Int->Option Int
 |0,_,_=>none
 |m+1,v_,k_=>(if 0<=i/\0<16 then (if k_<(i % 16) then (if 0<=v_/\0<2 then zfi k i m (d9.wrap (v_ / 2)) (d9.wrap (k_+1)) else none) else some v_) else none)
def zjp (k:Nat) (i:Int):Option Int:=((zfi k i k 32768 0:Option Int).bind fun s_=>some s_)
theorem zqm (ax:Axs) (hx:NoAx ax) (k:Nat) (i:Int) (v:Int) (H:zjp k i=some v):Pure Tryz.prog (EE ax) [] 132 [.int .i64 i] (.int .i64 v):=by
 rw [zjp] at H;refine en [.tmp 2] 14 [0] (hx.no _ (by decide)) (fn132 ax) ?_;intro h hh;apply d6;refine rk [0] [] hh fun h hh=>?_;apply d6;refine rk [0,3] [] hh fun h hh=>?_;repeat apply d6
 refine rk [0,3,4] [] hh fun h hh=>?_;obtain ⟨s_,H1,H⟩:=zad H;refine cu [3] 0 (fun h bs=>(h 3=.int .i64 s_)/\bs=[]) ?_ ?_
 .skip;apply fo;refine iw [0,3,4] (fun m h bs=>∃ (v_:Int) (k_:Int),zfi k i m v_ k_=some s_/\(h 0=.int .i64 i/\h 3=.int .i64 v_/\h 4=.int .i64 k_)/\bs=[]) ?_ k _ _ ?_;rotate_left
  .exact ⟨32768,0,H1,kq hh,rfl⟩
  clear hh h H1;rintro m h bs ⟨v_,k_,H1,hh,rfl⟩;rcases m with _|m
  .rw [zfi] at H1;cases H1
  rw [zfi] at H1;obtain ⟨g1,H1⟩:=isg H1;repeat apply d6
  refine rk [0,3,4,8] [] hh fun h hh=>?_;rcases isp H1 with ⟨c2,H1⟩|⟨c2,H1⟩;rotate_left
  .skip;refine cf (f2 hh (zAb c2)) ?_;refine xk ?_;cases H1;exact ce hh ⟨kq hh,rfl⟩
  refine ct (f2 hh (zAa c2)) ?_;refine sk ?_;apply d6;apply fo;obtain ⟨g3,H1⟩:=isg H1;refine rk [0,3,4] [] hh fun h hh=>?_;refine rk [0,3,4] [] hh fun h hh=>?_;exact rd m hh ⟨(d9.wrap (v_ / 2)),(d9.wrap (k_+1)),H1,kq hh,rfl⟩
 clear hh h;rintro h bs ⟨hh,rfl⟩;apply d6;refine rk [2] [] hh fun h hh=>?_;cases H;exact rt hh
def zfj (k:Nat) (h_:Ar 10) (i:Int):Option Int:=(if 0<=i/\0<16 then (if (0:Int)<=(d9.wrap (i / 16))/\(d9.wrap (i / 16))<(10:Int) then ((zjp k i).bind fun bc=>(if (0:Int)<=(gx h_.l (d9.wrap (i / 16)))/\0<bc then (if (0:Int)<=(d9.wrap ((gx h_.l (d9.wrap (i / 16))) / bc))/\0<2 then some ((d9.wrap ((gx h_.l (d9.wrap (i / 16))) / bc)) % 2) else none) else none)) else none) else none)
theorem zc0 (ax:Axs) (hx:NoAx ax) (k:Nat) (h_:Ar 10) (i:Int) (v:Int) (H:zfj k h_ i=some v):Pure Tryz.prog (EE ax) [] 119 [.agg (h_.l.map (d7 .i64)),.int .i64 i] (.int .i64 v):=by
 rw [zfj] at H;refine en [.tmp 4] 13 [0,1] (hx.no _ (by decide)) (fn119 ax) ?_;intro h hh;apply d6;refine rk [1,2] [] hh fun h hh=>?_;obtain ⟨g1,H⟩:=isg H;obtain ⟨g2,H⟩:=isg H;obtain ⟨bc,e3,H⟩:=zad H;obtain ⟨g4,H⟩:=isg H;obtain ⟨g5,H⟩:=isg H;apply d6;refine dk 6 [4] [.int .i64 bc] [] [] (f2 hh (arIx h_ g2)) ?_ trivial ?_
 .exact ⟨(zqm ax hx k i bc e3 ).call _,trivial⟩
 clear hh h;intro h hh;cases H;exact rt hh
def zdn (k:Nat) (p:Pat) (h_:Ar 10):Nat->Int->Option (Bool ⊕ Unit)
 |0,_=>none
 |m+1,i=>(if i<160 then ((zfj k p.mask i).bind fun aj=>(if aj=1 then ((zfj k p.bits i).bind fun am=>((zfj k h_ i).bind fun bp=>(if am≠bp then some (.inl false) else zdn k p h_ m (d9.wrap (i+1))))) else zdn k p h_ m (d9.wrap (i+1)))) else some (.inr ()))
def zlj (k:Nat) (p:Pat) (h_:Ar 10):Option Bool:=((zdn k p h_ k 0:Option (Bool ⊕ Unit)).bind fun o=>i9 (fun r=>some r) (fun s_=>some true) o)
theorem z1j (ax:Axs) (hx:NoAx ax) (k:Nat) (p:Pat) (h_:Ar 10) (v:Bool) (H:zlj k p h_=some v):Pure Tryz.prog (EE ax) [] 102 [ePat p,.agg (h_.l.map (d7 .i64))] (.bool v):=by
 rw [zlj] at H;refine en [.tmp 4] 25 [0,1] (hx.no _ (by decide)) (fn102 ax) ?_;intro h hh;apply d6;refine rk [2,3] [] hh fun h hh=>?_;repeat apply d6
 refine rk [2,3,5] [] hh fun h hh=>?_;obtain ⟨o,H1,H⟩:=zad H;refine cu [] 2 (fun h bs=>∃ s_:Unit,o=.inr s_/\(True)/\bs=[.cells true 20 (p.mask.l.map (d7 .i64)++(p.bits.l.map (d7 .i64))),.cells true 10 (h_.l.map (d7 .i64))]) ?_ ?_
 .skip;apply fo;refine iw [2,3,5] (fun m h bs=>∃ (i:Int),zdn k p h_ m i=some o/\(h 2=.ptr 0 0 20/\h 3=.ptr 1 0 10/\h 5=.int .i64 i)/\bs=[.cells true 20 (p.mask.l.map (d7 .i64)++(p.bits.l.map (d7 .i64))),.cells true 10 (h_.l.map (d7 .i64))]) ?_ k _ _ ?_;rotate_left
  .exact ⟨0,H1,kq hh,rfl⟩
  clear hh h H1;rintro m h bs ⟨i,H1,hh,rfl⟩;rcases m with _|m
  .rw [zdn] at H1;cases H1
  rw [zdn] at H1;repeat apply d6
  refine rk [2,3,5,7] [] hh fun h hh=>?_;rcases isp H1 with ⟨c1,H1⟩|⟨c1,H1⟩;rotate_left
  .skip;refine cf (f2 hh (zAb c1)) ?_;refine xk ?_;cases H1;exact ce hh ⟨_,rfl,kq hh,rfl⟩
  refine ct (f2 hh (zAa c1)) ?_;refine sk ?_;apply d6;apply fo;obtain ⟨aj,e2,H1⟩:=zad H1;rcases isp H1 with ⟨c3,H1⟩|⟨c3,H1⟩;rotate_left
  .skip;apply d6;refine dk 11 [2,3,5,24] [.int .i64 aj] [] [] (f2 hh (zAb c3)) ?_ trivial ?_
   .exact ⟨(zc0 ax hx k p.mask i aj e2 ).call _,trivial⟩
   clear hh h;intro h hh;refine cf hh ?_;refine sk ?_;refine rk [2,3,5] [] hh fun h hh=>?_;exact rd m hh ⟨(d9.wrap (i+1)),H1,kq hh,rfl⟩
  obtain ⟨am,e4,H1⟩:=zad H1;obtain ⟨bp,e5,H1⟩:=zad H1;apply d6;refine dk 11 [2,3,5,24] [.int .i64 aj,.int .i64 am] [] [(.int .i64 bp,stL [.cells true 20 (p.mask.l.map (d7 .i64)++(p.bits.l.map (d7 .i64))),.cells true 10 (h_.l.map (d7 .i64))])] (f2 hh (zAa c3)) ?_ ?_ ?_
  .exact ⟨(zc0 ax hx k p.mask i aj e2 ).call _,(zc0 ax hx k p.bits i am e4 ).call _,trivial⟩
  .exact ⟨ff ((zc0 ax hx k h_ i bp e5 ).call _),trivial⟩
  clear hh h;intro h hh;rcases isp H1 with ⟨c6,H1⟩|⟨c6,H1⟩;rotate_left
  .skip;refine cf (f2 hh (zAb c6)) ?_;refine sk ?_;refine rk [2,3,5] [] hh fun h hh=>?_;exact rd m hh ⟨(d9.wrap (i+1)),H1,kq hh,rfl⟩
  refine ct (f2 hh (zAa c6)) ?_;apply d6;refine rk [4] [] hh fun h hh=>?_;cases H1;obtain rfl:=sinl H;exact rt hh
 clear hh h;rintro h bs ⟨s_,rfl,hh,rfl⟩;replace H:=sinr H;apply d6;refine rk [4] [] hh fun h hh=>?_;cases H;exact rt hh
def zej (k:Nat) (t:List Rule) (h_:Ar 10):Nat->Int->Option (Int ⊕ Unit)
 |0,_=>none
 |m+1,k_=>(if k_<(t.length:Int) then (if 0<=k_/\k_<(t.length:Int) then ((zlj k ((gx t k_).mat) h_).bind fun dh=>(if dh=true then some (.inl k_) else zej k t h_ m (d9.wrap (k_+1)))) else none) else some (.inr ()))
def zj0 (k:Nat) (t:List Rule) (h_:Ar 10):Option Int:=((zej k t h_ k 0:Option (Int ⊕ Unit)).bind fun o=>i9 (fun r=>some r) (fun s_=>some (-1)) o)
theorem zxs (ax:Axs) (hx:NoAx ax) (k:Nat) (t:List Rule) (h_:Ar 10) (v:Int) (H:zj0 k t h_=some v):Pure Tryz.prog (EE ax) [] 77 [zas t,.agg (h_.l.map (d7 .i64))] (.int .i64 v):=by
 rw [zj0] at H;refine en [.tmp 4] 22 [0,1] (hx.no _ (by decide)) (fn77 ax) ?_;intro h hh;apply d6;refine rk [0,3] [] hh fun h hh=>?_;repeat apply d6
 refine rk [0,3,5] [] hh fun h hh=>?_;obtain ⟨o,H1,H⟩:=zad H;refine cu [] 1 (fun h bs=>∃ s_:Unit,o=.inr s_/\(True)/\bs=[.cells true 10 (h_.l.map (d7 .i64))]) ?_ ?_
 .skip;apply fo;refine iw [0,3,5] (fun m h bs=>∃ (k_:Int),zej k t h_ m k_=some o/\(h 0=zas t/\h 3=.ptr 0 0 10/\h 5=.int .i64 k_)/\bs=[.cells true 10 (h_.l.map (d7 .i64))]) ?_ k _ _ ?_;rotate_left
  .exact ⟨0,H1,kq hh,rfl⟩
  clear hh h H1;rintro m h bs ⟨k_,H1,hh,rfl⟩;rcases m with _|m
  .rw [zej] at H1;cases H1
  rw [zej] at H1;repeat apply d6
  refine rk [0,3,5,10] [] hh fun h hh=>?_;rcases isp H1 with ⟨c1,H1⟩|⟨c1,H1⟩;rotate_left
  .skip;refine cf (f2 hh (zAb c1)) ?_;refine xk ?_;cases H1;exact ce hh ⟨_,rfl,kq hh,rfl⟩
  refine ct (f2 hh (zAa c1)) ?_;refine sk ?_;apply d6;apply fo;obtain ⟨g2,H1⟩:=isg H1;obtain ⟨dh,e3,H1⟩:=zad H1;apply d6;refine dk 6 [0,3,5,6] [] [] [(.bool dh,stL [.cells true 10 (h_.l.map (d7 .i64))])] (f2 hh (zah g2)) trivial ?_ ?_
  .exact ⟨ff ((z1j ax hx k ((gx t k_).mat) h_ dh e3 ).call _),trivial⟩
  clear hh h;intro h hh;apply d6;refine rk [0,3,5,20] [] hh fun h hh=>?_;rcases isb H1 with ⟨c4,H1⟩|⟨c4,H1⟩;rotate_left
  .skip;refine cf (f2 hh c4) ?_;refine sk ?_;refine rk [0,3,5] [] (f2 hh c4) fun h hh=>?_;exact rd m hh ⟨(d9.wrap (k_+1)),H1,kq hh,rfl⟩
  refine ct (f2 hh c4) ?_;apply d6;refine rk [4] [] (f2 hh c4) fun h hh=>?_;cases H1;obtain rfl:=sinl H;exact rt hh
 clear hh h;rintro h bs ⟨s_,rfl,hh,rfl⟩;replace H:=sinr H;apply d6;refine rk [4] [] hh fun h hh=>?_;cases H;exact rt hh
def zhi (k:Nat) (f_:zfp) (link:Int):Nat->Int->Option (Bool ⊕ Unit)
 |0,_=>none
 |m+1,i=>(if i<(f_.links.length:Int) then (if 0<=i/\i<(f_.links.length:Int) then (if (gx f_.links i)=link then some (.inl false) else zhi k f_ link m (d9.wrap (i+1))) else none) else some (.inr ()))
def zr7 (k:Nat) (n:Net) (f_:zfp) (link:Int):Option Bool:=((zhi k f_ link k 0:Option (Bool ⊕ Unit)).bind fun o=>i9 (fun r=>some r) (fun s_=>(if 0<=link/\link<(n.links.length:Int) then (if ((gx n.links link).frm)≠f_.node then some (decide (((gx n.links link).to)≠f_.node)) else some false) else none)) o)
theorem yco (ax:Axs) (hx:NoAx ax) (k:Nat) (n:Net) (f_:zfp) (link:Int) (v:Bool) (H:zr7 k n f_ link=some v):Pure Tryz.prog (EE ax) [] 103 [eNet n,zo5 f_,.int .i64 link] (.bool v):=by
 rw [zr7] at H;refine en [.tmp 6] 42 [0,1,2] (hx.no _ (by decide)) (fn103 ax) ?_;intro h hh;apply d6;refine rk [2,3,4] [] hh fun h hh=>?_;repeat apply d6
 refine rk [2,3,4,7] [] hh fun h hh=>?_;obtain ⟨o,H1,H⟩:=zad H;refine cu [2,3,4] 2 (fun h bs=>∃ s_:Unit,o=.inr s_/\(h 2=.int .i64 link/\h 3=.ptr 0 0 3/\h 4=.ptr 1 0 2)/\bs=[.cells true 3 [zax n.nodes,zay n.links,zaz n.edges],.cells true 2 [ints f_.links,.int .i64 f_.node]]) ?_ ?_
 .skip;apply fo;refine iw [2,3,4,7] (fun m h bs=>∃ (i:Int),zhi k f_ link m i=some o/\(h 2=.int .i64 link/\h 3=.ptr 0 0 3/\h 4=.ptr 1 0 2/\h 7=.int .i64 i)/\bs=[.cells true 3 [zax n.nodes,zay n.links,zaz n.edges],.cells true 2 [ints f_.links,.int .i64 f_.node]]) ?_ k _ _ ?_;rotate_left
  .exact ⟨0,H1,kq hh,rfl⟩
  clear hh h H1;rintro m h bs ⟨i,H1,hh,rfl⟩;rcases m with _|m
  .rw [zhi] at H1;cases H1
  rw [zhi] at H1;repeat apply d6
  refine rk [2,3,4,7,12] [] hh fun h hh=>?_;rcases isp H1 with ⟨c1,H1⟩|⟨c1,H1⟩;rotate_left
  .skip;refine cf (f2 hh (zAb c1)) ?_;refine xk ?_;cases H1;exact ce hh ⟨_,rfl,kq hh,rfl⟩
  refine ct (f2 hh (zAa c1)) ?_;refine sk ?_;apply d6;apply fo;obtain ⟨g2,H1⟩:=isg H1;apply d6;refine rk [2,3,4,7,21] [] (f2 hh (zah g2)) fun h hh=>?_;rcases isp H1 with ⟨c3,H1⟩|⟨c3,H1⟩;rotate_left
  .skip;refine cf (f2 hh (zAb c3)) ?_;refine sk ?_;refine rk [2,3,4,7] [] hh fun h hh=>?_;exact rd m hh ⟨(d9.wrap (i+1)),H1,kq hh,rfl⟩
  refine ct (f2 hh (zAa c3)) ?_;apply d6;refine rk [6] [] hh fun h hh=>?_;cases H1;obtain rfl:=sinl H;exact rt hh
 clear hh h;rintro h bs ⟨s_,rfl,hh,rfl⟩;replace H:=sinr H;obtain ⟨g4,H⟩:=isg H;rcases isp H with ⟨c5,H⟩|⟨c5,H⟩;rotate_left
 .skip;apply d6;refine dk 18 [6] [] [] [] (f3 hh (zAb c5) (zah g4)) trivial trivial fun h hh=>?_;cases H;exact rt hh
 apply d6;refine dk 18 [6] [] [] [] (f3 hh (zAa c5) (zah g4)) trivial trivial fun h hh=>?_;cases H;exact rt hh
def zkj (k:Nat) (h_:Ar 10) (i:Int) (b:Int):Option (Ar 10):=(if 0<=i/\0<16 then (if (0:Int)<=(d9.wrap (i / 16))/\(d9.wrap (i / 16))<(10:Int) then ((zfj k h_ i).bind fun aj=>((zjp k i).bind fun bc=>some (h_.set (d9.wrap (i / 16)) (d9.wrap ((gx h_.l (d9.wrap (i / 16)))+(d9.wrap ((d9.wrap (b - aj))*bc))))))) else none) else none)
theorem zpx (ax:Axs) (hx:NoAx ax) (k:Nat) (h_:Ar 10) (i:Int) (b:Int) (v:Ar 10) (H:zkj k h_ i b=some v):Pure Tryz.prog (EE ax) [] 120 [.agg (h_.l.map (d7 .i64)),.int .i64 i,.int .i64 b] (.agg (v.l.map (d7 .i64))):=by
 rw [zkj] at H;refine en [.cell 6 60] 24 [0,1,2] (hx.no _ (by decide)) (fn120 ax) ?_;intro h hh;apply d6;refine rk [1,2,3,6] [] hh fun h hh=>?_;obtain ⟨g1,H⟩:=isg H;obtain ⟨g2,H⟩:=isg H;obtain ⟨aj,e3,H⟩:=zad H;obtain ⟨bc,e4,H⟩:=zad H;apply d6;refine dk 13 [3,6] [.int .i64 aj,.int .i64 bc] [] [] (f3 hh (arIx h_ g2) (yjx (k:=.i64) h_ (d9.wrap ((gx h_.l (d9.wrap (i / 16)))+(d9.wrap ((d9.wrap (b - aj))*bc)))) g2)) ?_ trivial ?_
 .exact ⟨(zc0 ax hx k h_ i aj e3 ).call _,(zqm ax hx k i bc e4 ).call _,trivial⟩
 clear hh h;intro h hh;apply d6;refine rk [6] [] hh fun h hh=>?_;cases H;exact rtc hh
def zea (k:Nat) (m_:Pat):Nat->Int->(Ar 10)->Option (Ar 10)
 |0,_,_=>none
 |m+1,i,x=>(if i<160 then ((zfj k m_.mask i).bind fun aj=>(if aj=1 then ((zfj k m_.bits i).bind fun am=>((zkj k x i am).bind fun bd=>zea k m_ m (d9.wrap (i+1)) bd)) else zea k m_ m (d9.wrap (i+1)) x)) else some x)
def zhj (k:Nat) (m_:Pat) (h_:Ar 10):Option (Ar 10):=((zea k m_ k 0 h_:Option (Ar 10)).bind fun s_=>some s_)
theorem z1k (ax:Axs) (hx:NoAx ax) (k:Nat) (m_:Pat) (h_:Ar 10) (v:Ar 10) (H:zhj k m_ h_=some v):Pure Tryz.prog (EE ax) [] 104 [ePat m_,.agg (h_.l.map (d7 .i64))] (.agg (v.l.map (d7 .i64))):=by
 rw [zhj] at H;refine en [.cell 4 60] 23 [0,1] (hx.no _ (by decide)) (fn104 ax) ?_;intro h hh;apply d6;refine rk [2,3,4] [] hh fun h hh=>?_;repeat apply d6
 refine rk [2,3,4,5] [] hh fun h hh=>?_;obtain ⟨s_,H1,H⟩:=zad H;refine cu [3,4] 3 (fun h bs=>(h 3=.ptr 1 0 10/\h 4=.ptr 2 0 10)/\bs=[.cells true 20 (m_.mask.l.map (d7 .i64)++(m_.bits.l.map (d7 .i64))),.cells true 10 (s_.l.map (d7 .i64)),.cells true 10 ((zA 10).l.map (d7 .i64))]) ?_ ?_
 .skip;apply fo;refine iw [2,3,4,5] (fun m h bs=>∃ (i:Int) (x:Ar 10),zea k m_ m i x=some s_/\(h 2=.ptr 0 0 20/\h 3=.ptr 1 0 10/\h 4=.ptr 2 0 10/\h 5=.int .i64 i)/\bs=[.cells true 20 (m_.mask.l.map (d7 .i64)++(m_.bits.l.map (d7 .i64))),.cells true 10 (x.l.map (d7 .i64)),.cells true 10 ((zA 10).l.map (d7 .i64))]) ?_ k _ _ ?_;rotate_left
  .exact ⟨0,h_,H1,kq hh,rfl⟩
  clear hh h H1;rintro m h bs ⟨i,x,H1,hh,rfl⟩;rcases m with _|m
  .rw [zea] at H1;cases H1
  rw [zea] at H1;repeat apply d6
  refine rk [2,3,4,5,7] [] hh fun h hh=>?_;rcases isp H1 with ⟨c1,H1⟩|⟨c1,H1⟩;rotate_left
  .skip;refine cf (f2 hh (zAb c1)) ?_;refine xk ?_;cases H1;exact ce hh ⟨kq hh,rfl⟩
  refine ct (f2 hh (zAa c1)) ?_;refine sk ?_;apply d6;apply fo;obtain ⟨aj,e2,H1⟩:=zad H1;apply d6;refine rkp [2,3,4,5,14] [] [.int .i64 aj] hh ?_ ?_
  .exact ⟨ff ((zc0 ax hx k m_.mask i aj e2 ).call _),trivial⟩
  clear hh h;intro h hh;rcases isp H1 with ⟨c3,H1⟩|⟨c3,H1⟩;rotate_left
  .skip;refine cf (f2 hh (zAb c3)) ?_;refine sk ?_;refine rk [2,3,4,5] [] hh fun h hh=>?_;exact rd m hh ⟨(d9.wrap (i+1)),x,H1,kq hh,rfl⟩
  refine ct (f2 hh (zAa c3)) ?_;obtain ⟨am,e4,H1⟩:=zad H1;obtain ⟨bd,e5,H1⟩:=zad H1;refine dk 6 [2,3,4,5] [.int .i64 am] [] [(.agg (bd.l.map (d7 .i64)),stL [.cells true 20 (m_.mask.l.map (d7 .i64)++(m_.bits.l.map (d7 .i64))),.cells true 10 (x.l.map (d7 .i64)),.cells true 10 ((zA 10).l.map (d7 .i64))])] hh ?_ ?_ ?_
  .exact ⟨(zc0 ax hx k m_.bits i am e4 ).call _,trivial⟩
  .exact ⟨ff ((zpx ax hx k x i am bd e5 ).call _),trivial⟩
  clear hh h;intro h hh;refine rk [2,3,4,5] [] hh fun h hh=>?_;exact rd m hh ⟨(d9.wrap (i+1)),bd,H1,kq hh,rfl⟩
 clear hh h;rintro h bs ⟨hh,rfl⟩;apply d6;refine rk [4] [] hh fun h hh=>?_;cases H;exact rtc hh
def ze5 (k:Nat) (n:Net) (f_:zfp) (r:Rule) (h_:Ar 10) (k_:Int):Nat->Bool->Int->(List (Ar 10))->Nat->Option (List (Ar 10)×Nat)
 |0,_,_,_,_=>none
 |m+1,sent,i,l2,n3=>(if 0<=k_/\k_<(r.outs.length:Int) then (if i<((gx r.outs k_).length:Int) then (if 0<=i/\i<((gx r.outs k_).length:Int) then (((if ((gx (gx r.outs k_) i).link)<0 then some true else ((zr7 k n f_ ((gx (gx r.outs k_) i).link)).bind fun rUp=>some rUp)):Option Bool).bind fun s_4=>(((if s_4=true then some (!sent) else some false):Option Bool).bind fun s_5=>(if s_5=true then ((zhj k ((gx (gx r.outs k_) i).mod) h_).bind fun ak=>(if (n3+1)*81<=1000000000 then ze5 k n f_ r h_ k_ m true (d9.wrap (i+1)) (l2++[ak]) (n3+1) else none)) else ze5 k n f_ r h_ k_ m sent (d9.wrap (i+1)) l2 n3))) else none) else some (l2,n3)) else none)
def ze6 (k:Nat) (n:Net) (f_:zfp) (r:Rule) (h_:Ar 10):Nat->Int->(List (Ar 10))->Nat->Option (List (Ar 10)×Nat)
 |0,_,_,_=>none
 |m+1,k_,l,n2=>(if k_<(r.outs.length:Int) then ((((ze5 k n f_ r h_ k_ k false 0 l n2:Option (List (Ar 10)×Nat)).bind fun s_3=>some (s_3.1,s_3.2)):Option (List (Ar 10)×Nat)).bind fun s_2=>ze6 k n f_ r h_ m (d9.wrap (k_+1)) s_2.1 s_2.2) else some (l,n2))
def zle (k:Nat) (n:Net) (f_:zfp) (r:Rule) (h_:Ar 10):Option (List (Ar 10)):=((ze6 k n f_ r h_ k 0 [] 0:Option (List (Ar 10)×Nat)).bind fun s_=>(if s_.1.length=s_.2 then some s_.1 else none))
theorem z3g (ax:Axs) (hx:NoAx ax) (k:Nat) (n:Net) (f_:zfp) (r:Rule) (h_:Ar 10) (v:List (Ar 10)) (H:zle k n f_ r h_=some v):Pure Tryz.prog (EE ax) [] 78 [eNet n,zo5 f_,zao r,.agg (h_.l.map (d7 .i64))] (zlw v):=by
 rw [zle] at H;refine en [.tmp 8] 63 [0,1,2,3] (hx.no _ (by decide)) (fn78 ax) ?_;intro h hh;apply d6;refine rk [4,5,6,7] [] hh fun h hh=>?_;apply d6;refine rk [4,5,6,7,9] [] hh fun h hh=>?_;refine vk 9 10 [4,5,6,7,9] hh fun h hh=>?_;repeat apply d6
 refine rk [4,5,6,7,9,10] [] hh fun h hh=>?_;obtain ⟨s_,H1,H⟩:=zad H;refine cu [9] 5 (fun h bs=>(h 9=.arr 4 10 0 s_.2 s_.2 (s_.2*10))/\bs=[.cells true 3 [zax n.nodes,zay n.links,zaz n.edges],.cells true 2 [ints f_.links,.int .i64 f_.node],.cells true 23 (d7 .i64 r.prio :: (r.mat.mask.l.map (d7 .i64)++(r.mat.bits.l.map (d7 .i64)++[d7 .i64 r.step,zbp r.outs]))),.cells true 10 (h_.l.map (d7 .i64)),.cells false (s_.2*10) (vecC (eAr .i64) s_.1)]) ?_ ?_
 .skip;apply fo;refine iw [4,5,6,7,9,10] (fun m h bs=>∃ (k_:Int) (l:List (Ar 10)) (n2:Nat),ze6 k n f_ r h_ m k_ l n2=some s_/\(h 4=.ptr 0 0 3/\h 5=.ptr 1 0 2/\h 6=.ptr 2 0 23/\h 7=.ptr 3 0 10/\h 9=.arr 4 10 0 n2 n2 (n2*10)/\h 10=.int .i64 k_)/\bs=[.cells true 3 [zax n.nodes,zay n.links,zaz n.edges],.cells true 2 [ints f_.links,.int .i64 f_.node],.cells true 23 (d7 .i64 r.prio :: (r.mat.mask.l.map (d7 .i64)++(r.mat.bits.l.map (d7 .i64)++[d7 .i64 r.step,zbp r.outs]))),.cells true 10 (h_.l.map (d7 .i64)),.cells false (n2*10) (vecC (eAr .i64) l)]) ?_ k _ _ ?_;rotate_left
  .exact ⟨0,[],0,H1,kq hh,rfl⟩
  clear hh h H1;rintro m h bs ⟨k_,l,n2,H1,hh,rfl⟩;rcases m with _|m
  .rw [ze6] at H1;cases H1
  rw [ze6] at H1;repeat apply d6
  refine rk [4,5,6,7,9,10,19] [] hh fun h hh=>?_;rcases isp H1 with ⟨c1,H1⟩|⟨c1,H1⟩;rotate_left
  .skip;refine cf (f2 hh (zAb c1)) ?_;refine xk ?_;cases H1;exact ce hh ⟨kq hh,rfl⟩
  refine ct (f2 hh (zAa c1)) ?_;refine sk ?_;obtain ⟨s_2,H2,H1⟩:=zad H1;apply d6;refine cu [4,5,6,7,9,10] 5 (fun h bs=>(h 4=.ptr 0 0 3/\h 5=.ptr 1 0 2/\h 6=.ptr 2 0 23/\h 7=.ptr 3 0 10/\h 9=.arr 4 10 0 s_2.2 s_2.2 (s_2.2*10)/\h 10=.int .i64 k_)/\bs=[.cells true 3 [zax n.nodes,zay n.links,zaz n.edges],.cells true 2 [ints f_.links,.int .i64 f_.node],.cells true 23 (d7 .i64 r.prio :: (r.mat.mask.l.map (d7 .i64)++(r.mat.bits.l.map (d7 .i64)++[d7 .i64 r.step,zbp r.outs]))),.cells true 10 (h_.l.map (d7 .i64)),.cells false (s_2.2*10) (vecC (eAr .i64) s_2.1)]) ?_ ?_
  .skip;apply fo;apply d6;refine rk [4,5,6,7,9,10,11] [] hh fun h hh=>?_;apply d6;refine rk [4,5,6,7,9,10,11,12] [] hh fun h hh=>?_;obtain ⟨s_3,H3,H2⟩:=zad H2;refine cu [4,5,6,7,9,10] 5 (fun h bs=>(h 4=.ptr 0 0 3/\h 5=.ptr 1 0 2/\h 6=.ptr 2 0 23/\h 7=.ptr 3 0 10/\h 9=.arr 4 10 0 s_3.2 s_3.2 (s_3.2*10)/\h 10=.int .i64 k_)/\bs=[.cells true 3 [zax n.nodes,zay n.links,zaz n.edges],.cells true 2 [ints f_.links,.int .i64 f_.node],.cells true 23 (d7 .i64 r.prio :: (r.mat.mask.l.map (d7 .i64)++(r.mat.bits.l.map (d7 .i64)++[d7 .i64 r.step,zbp r.outs]))),.cells true 10 (h_.l.map (d7 .i64)),.cells false (s_3.2*10) (vecC (eAr .i64) s_3.1)]) ?_ ?_
   .skip;apply fo;refine iw [4,5,6,7,9,10,11,12] (fun m h bs=>∃ (sent:Bool) (i:Int) (l2:List (Ar 10)) (n3:Nat),ze5 k n f_ r h_ k_ m sent i l2 n3=some s_3/\(h 4=.ptr 0 0 3/\h 5=.ptr 1 0 2/\h 6=.ptr 2 0 23/\h 7=.ptr 3 0 10/\h 9=.arr 4 10 0 n3 n3 (n3*10)/\h 10=.int .i64 k_/\h 11=.bool sent/\h 12=.int .i64 i)/\bs=[.cells true 3 [zax n.nodes,zay n.links,zaz n.edges],.cells true 2 [ints f_.links,.int .i64 f_.node],.cells true 23 (d7 .i64 r.prio :: (r.mat.mask.l.map (d7 .i64)++(r.mat.bits.l.map (d7 .i64)++[d7 .i64 r.step,zbp r.outs]))),.cells true 10 (h_.l.map (d7 .i64)),.cells false (n3*10) (vecC (eAr .i64) l2)]) ?_ k _ _ ?_;rotate_left
    .exact ⟨false,0,l,n2,H3,kq hh,rfl⟩
    clear hh h H3;rintro m h bs ⟨sent,i,l2,n3,H3,hh,rfl⟩;rcases m with _|m
    .rw [ze5] at H3;cases H3
    rw [ze5] at H3;obtain ⟨g2,H3⟩:=isg H3;repeat apply d6
    refine rk [4,5,6,7,9,10,11,12,29] [] (f2 hh (zah g2)) fun h hh=>?_;rcases isp H3 with ⟨c3,H3⟩|⟨c3,H3⟩;rotate_left
    .skip;refine cf (f2 hh (zAb c3)) ?_;refine xk ?_;cases H3;exact ce hh ⟨kq hh,rfl⟩
    refine ct (f2 hh (zAa c3)) ?_;refine sk ?_;apply d6;apply fo;obtain ⟨g4,H3⟩:=isg H3;apply d6;refine rk [4,5,6,7,9,10,11,12,13] [] (f3 hh (zah g2) (zah g4)) fun h hh=>?_;obtain ⟨s_4,H4,H3⟩:=zad H3;apply d6;refine cu [4,5,6,7,9,10,11,12,13,14] 6 (fun h bs=>(h 4=.ptr 0 0 3/\h 5=.ptr 1 0 2/\h 6=.ptr 2 0 23/\h 7=.ptr 3 0 10/\h 9=.arr 4 10 0 n3 n3 (n3*10)/\h 10=.int .i64 k_/\h 11=.bool sent/\h 12=.int .i64 i/\h 13=.ptr 5 0 21/\h 14=.bool s_4)/\bs=[.cells true 3 [zax n.nodes,zay n.links,zaz n.edges],.cells true 2 [ints f_.links,.int .i64 f_.node],.cells true 23 (d7 .i64 r.prio :: (r.mat.mask.l.map (d7 .i64)++(r.mat.bits.l.map (d7 .i64)++[d7 .i64 r.step,zbp r.outs]))),.cells true 10 (h_.l.map (d7 .i64)),.cells false (n3*10) (vecC (eAr .i64) l2),.cells true 21 (d7 .i64 ((gx (gx r.outs k_) i).link) :: ((((gx (gx r.outs k_) i).mod).mask).l.map (d7 .i64)++((((gx (gx r.outs k_) i).mod).bits).l.map (d7 .i64))))]) ?_ ?_
    .skip;rcases isp H4 with ⟨c5,H4⟩|⟨c5,H4⟩;rotate_left
     .skip;obtain ⟨rUp,e6,H4⟩:=zad H4;refine rkp [4,5,6,7,9,10,11,12,13,14] [] [.bool rUp] (f2 hh (zAb c5)) ?_ ?_
      .exact ⟨ff ((yco ax hx k n f_ ((gx (gx r.outs k_) i).link) rUp e6 ).call _),trivial⟩
      clear hh h;intro h hh;cases H4;exact ce hh ⟨kq hh,rfl⟩
     refine rk [4,5,6,7,9,10,11,12,13,14] [] (f2 hh (zAa c5)) fun h hh=>?_;cases H4;exact ce hh ⟨kq hh,rfl⟩
    clear hh h;rintro h bs ⟨hh,rfl⟩;obtain ⟨s_5,H4,H3⟩:=zad H3;apply d6;refine cu [4,5,6,7,9,10,11,12,13,54] 6 (fun h bs=>(h 4=.ptr 0 0 3/\h 5=.ptr 1 0 2/\h 6=.ptr 2 0 23/\h 7=.ptr 3 0 10/\h 9=.arr 4 10 0 n3 n3 (n3*10)/\h 10=.int .i64 k_/\h 11=.bool sent/\h 12=.int .i64 i/\h 13=.ptr 5 0 21/\h 54=.bool s_5)/\bs=[.cells true 3 [zax n.nodes,zay n.links,zaz n.edges],.cells true 2 [ints f_.links,.int .i64 f_.node],.cells true 23 (d7 .i64 r.prio :: (r.mat.mask.l.map (d7 .i64)++(r.mat.bits.l.map (d7 .i64)++[d7 .i64 r.step,zbp r.outs]))),.cells true 10 (h_.l.map (d7 .i64)),.cells false (n3*10) (vecC (eAr .i64) l2),.cells true 21 (d7 .i64 ((gx (gx r.outs k_) i).link) :: ((((gx (gx r.outs k_) i).mod).mask).l.map (d7 .i64)++((((gx (gx r.outs k_) i).mod).bits).l.map (d7 .i64))))]) ?_ ?_
    .skip;rcases isb H4 with ⟨c7,H4⟩|⟨c7,H4⟩;rotate_left
     .skip;refine rk [4,5,6,7,9,10,11,12,13,54] [] (f2 hh c7) fun h hh=>?_;cases H4;exact ce hh ⟨kq hh,rfl⟩
     refine rk [4,5,6,7,9,10,11,12,13,54] [] (f2 hh c7) fun h hh=>?_;cases H4;exact ce hh ⟨kq hh,rfl⟩
    clear hh h;rintro h bs ⟨hh,rfl⟩;rcases isb H3 with ⟨c8,H3⟩|⟨c8,H3⟩;rotate_left
    .skip;refine cf (f2 hh c8) ?_;refine sk ?_;refine rk [4,5,6,7,9,10,11,12] [] (f2 hh c8) fun h hh=>?_;exact rd m hh ⟨sent,(d9.wrap (i+1)),l2,n3,H3,kq hh,rfl⟩
    refine ct (f2 hh c8) ?_;apply d6;refine rk [4,5,6,7,9,10,11,12,13] [] (f2 hh c8) fun h hh=>?_;obtain ⟨ak,e9,H3⟩:=zad H3;obtain ⟨g10,H3⟩:=isg H3;refine rg [] [(.agg (ak.l.map (d7 .i64)),stL [.cells true 3 [zax n.nodes,zay n.links,zaz n.edges],.cells true 2 [ints f_.links,.int .i64 f_.node],.cells true 23 (d7 .i64 r.prio :: (r.mat.mask.l.map (d7 .i64)++(r.mat.bits.l.map (d7 .i64)++[d7 .i64 r.step,zbp r.outs]))),.cells true 10 (h_.l.map (d7 .i64)),.cells false (n3*10) (vecC (eAr .i64) l2),.cells true 21 (d7 .i64 ((gx (gx r.outs k_) i).link) :: ((((gx (gx r.outs k_) i).mod).mask).l.map (d7 .i64)++((((gx (gx r.outs k_) i).mod).bits).l.map (d7 .i64))))])] [.cells true 3 [zax n.nodes,zay n.links,zaz n.edges],.cells true 2 [ints f_.links,.int .i64 f_.node],.cells true 23 (d7 .i64 r.prio :: (r.mat.mask.l.map (d7 .i64)++(r.mat.bits.l.map (d7 .i64)++[d7 .i64 r.step,zbp r.outs]))),.cells true 10 (h_.l.map (d7 .i64)),.cells false ((n3+1)*10) (vecC (eAr .i64) (l2++[ak])),.cells true 21 (d7 .i64 ((gx (gx r.outs k_) i).link) :: ((((gx (gx r.outs k_) i).mod).mask).l.map (d7 .i64)++((((gx (gx r.outs k_) i).mod).bits).l.map (d7 .i64))))] (fun h=>h 4=.ptr 0 0 3/\h 5=.ptr 1 0 2/\h 6=.ptr 2 0 23/\h 7=.ptr 3 0 10/\h 9=.arr 4 10 0 (n3+1) (n3+1) ((n3+1)*10)/\h 10=.int .i64 k_/\h 11=.bool true/\h 12=.int .i64 i) (f3 hh c8 (@yke .i64 10)) ?_ ?_
    .exact ⟨ff (gq (z1k ax hx k ((gx (gx r.outs k_) i).mod) h_ ak e9 ) (by first|rfl|simp only [c8])),trivial⟩
    clear hh h;intro h hh;refine rk [4,5,6,7,9,10,11,12] [] (f2 hh c8) fun h hh=>?_;exact rd m hh ⟨true,(d9.wrap (i+1)),(l2++[ak]),(n3+1),H3,kq hh,rfl⟩
   clear hh h;rintro h bs ⟨hh,rfl⟩;cases H2;exact ce hh ⟨kq hh,rfl⟩
  clear hh h;rintro h bs ⟨hh,rfl⟩;refine rk [4,5,6,7,9,10] [] hh fun h hh=>?_;exact rd m hh ⟨(d9.wrap (k_+1)),s_2.1,s_2.2,H1,kq hh,rfl⟩
 clear hh h;rintro h bs ⟨hh,rfl⟩;apply d6;refine rk [8] [] hh fun h hh=>?_;obtain ⟨g11,H⟩:=isg H;refine nf 8 (b:=4) (e:=10) (off:=0) (len:=s_.2) (cap:=s_.2) (M:=(s_.2*10)) (s_.1.map (eAr .i64)) (kq hh) (by rfl) (by omega) (by omega) (by rw [fl];exact zim (fun x=>yqq x) g11) (fun t ht=>by obtain ⟨x,_,rfl⟩:=ip.1 ht;first|rfl|exact zi7 _|exact zh5 _|exact zc6 _|exact zch _ | (rw [ek];rfl)) (by rw [ek]<;>exact g11) (by omega) ?_;rw [zhs _ _ _ (by simp only [lzA]<;>omega)];simp only [scA];refine gk [8] hh fun h hh=>?_;cases H;exact rt hh
def zg3 (k:Nat) (c:zbc) (most:Int):Nat->Int->Int->Option (Bool ⊕ Int)
 |0,_,_=>none
 |m+1,count,i=>(if i<(c.tables.length:Int) then (if 0<=i/\i<(c.tables.length:Int) then ((zqk k (gx c.tables i) most).bind fun bq=>(if bq=true then zg3 k c most m (d9.wrap (count+((gx c.tables i).length:Int))) (d9.wrap (i+1)) else some (.inl false))) else none) else some (.inr count))
def zqj (k:Nat) (c:zbc) (most:Int):Option Bool:=((zg3 k c most k 0 0:Option (Bool ⊕ Int)).bind fun o=>i9 (fun r=>some r) (fun s_=>(if s_<=most then (if (c.steps.length:Int)<=40 then some (decide ((c.tables.length:Int)<=40)) else some false) else some false)) o)
theorem z65 (ax:Axs) (hx:NoAx ax) (k:Nat) (c:zbc) (most:Int) (v:Bool) (H:zqj k c most=some v):Pure Tryz.prog (EE ax) [] 7 [zg9 c,.int .i64 most] (.bool v):=by
 rw [zqj] at H;refine en [.tmp 4] 47 [0,1] (hx.no _ (by decide)) (fn7 ax) ?_;intro h hh;apply d6;refine rk [1,2] [] hh fun h hh=>?_;apply d6;refine rk [1,2,5] [] hh fun h hh=>?_;repeat apply d6
 refine rk [1,2,5,6] [] hh fun h hh=>?_;obtain ⟨o,H1,H⟩:=zad H;refine cu [1,2,5] 1 (fun h bs=>∃ s_:Int,o=.inr s_/\(h 1=.int .i64 most/\h 2=.ptr 0 0 3/\h 5=.int .i64 s_)/\bs=[.cells true 3 [.int .i64 c.version,zau c.tables,zat c.steps]]) ?_ ?_
 .skip;apply fo;refine iw [1,2,5,6] (fun m h bs=>∃ (count:Int) (i:Int),zg3 k c most m count i=some o/\(h 1=.int .i64 most/\h 2=.ptr 0 0 3/\h 5=.int .i64 count/\h 6=.int .i64 i)/\bs=[.cells true 3 [.int .i64 c.version,zau c.tables,zat c.steps]]) ?_ k _ _ ?_;rotate_left
  .exact ⟨0,0,H1,kq hh,rfl⟩
  clear hh h H1;rintro m h bs ⟨count,i,H1,hh,rfl⟩;rcases m with _|m
  .rw [zg3] at H1;cases H1
  rw [zg3] at H1;repeat apply d6
  refine rk [1,2,5,6,12] [] hh fun h hh=>?_;rcases isp H1 with ⟨c1,H1⟩|⟨c1,H1⟩;rotate_left
  .skip;refine cf (f2 hh (zAb c1)) ?_;refine xk ?_;cases H1;exact ce hh ⟨_,rfl,kq hh,rfl⟩
  refine ct (f2 hh (zAa c1)) ?_;refine sk ?_;apply d6;apply fo;obtain ⟨g2,H1⟩:=isg H1;obtain ⟨bq,e3,H1⟩:=zad H1;apply d6;refine rkp [1,2,5,6,7] [] [.bool bq] (f2 hh (zah g2)) ?_ ?_
  .exact ⟨ff ((z66 ax hx k (gx c.tables i) most bq e3 ).call _),trivial⟩
  clear hh h;intro h hh;repeat apply d6
  refine rk [1,2,5,6,23] [] hh fun h hh=>?_;rcases isb H1 with ⟨c4,H1⟩|⟨c4,H1⟩;rotate_left
  .skip;refine ct (f2 hh c4) ?_;apply d6;refine rk [4] [] (f2 hh c4) fun h hh=>?_;cases H1;obtain rfl:=sinl H;exact rt hh
  refine cf (f2 hh c4) ?_;refine sk ?_;refine rk [1,2,5,6] [] (f3 hh c4 (zah g2)) fun h hh=>?_;refine rk [1,2,5,6] [] (f2 hh c4) fun h hh=>?_;exact rd m hh ⟨(d9.wrap (count+((gx c.tables i).length:Int))),(d9.wrap (i+1)),H1,kq hh,rfl⟩
 clear hh h;rintro h bs ⟨s_,rfl,hh,rfl⟩;replace H:=sinr H;rcases isp H with ⟨c5,H⟩|⟨c5,H⟩;rotate_left
 .skip;apply d6;refine rk [4] [] (f2 hh (zAb c5)) fun h hh=>?_;cases H;exact rt hh
 rcases isp H with ⟨c6,H⟩|⟨c6,H⟩;rotate_left
 .skip;apply d6;refine rk [4] [] (f3 hh (zAa c5) (zAb c6)) fun h hh=>?_;cases H;exact rt hh
 apply d6;refine rk [4] [] (f3 hh (zAa c5) (zAa c6)) fun h hh=>?_;cases H;exact rt hh
def zla (k:Nat) (r:Rule):Option Bool:=(if (0:Int)<=0/\0<(10:Int) then (if (gx r.mat.mask.l 0)=65535 then (if (0:Int)<=9/\9<(10:Int) then some (decide ((gx r.mat.mask.l 9)=65535)) else none) else some false) else none)
theorem z08 (ax:Axs) (hx:NoAx ax) (k:Nat) (r:Rule) (v:Bool) (H:zla k r=some v):Pure Tryz.prog (EE ax) [] 56 [zao r] (.bool v):=by
 rw [zla] at H;refine en [.tmp 2] 15 [0] (hx.no _ (by decide)) (fn56 ax) ?_;intro h hh;apply d6;refine rk [1] [] hh fun h hh=>?_;obtain ⟨g1,H⟩:=isg H;rcases isp H with ⟨c2,H⟩|⟨c2,H⟩;rotate_left
 .skip;apply d6;refine rk [2] [] (f3 hh (zAb c2) (zn8 (k:=.i64) (off:=1) (L:=(d7 .i64 r.prio :: (r.mat.mask.l.map (d7 .i64)++(r.mat.bits.l.map (d7 .i64)++[d7 .i64 r.step,si 1 (r.outs.map lAlt)])))) (r:=(r.mat.bits.l.map (d7 .i64)++[d7 .i64 r.step,si 1 (r.outs.map lAlt)])) r.mat.mask g1)) fun h hh=>?_;cases H;exact rt hh
 obtain ⟨g3,H⟩:=isg H;apply d6;refine rk [2] [] (f3 hh (zAa c2) (f2 (zn8 (k:=.i64) (off:=1) (L:=(d7 .i64 r.prio :: (r.mat.mask.l.map (d7 .i64)++(r.mat.bits.l.map (d7 .i64)++[d7 .i64 r.step,si 1 (r.outs.map lAlt)])))) (r:=(r.mat.bits.l.map (d7 .i64)++[d7 .i64 r.step,si 1 (r.outs.map lAlt)])) r.mat.mask g1) (zn8 (k:=.i64) (off:=1) (L:=(d7 .i64 r.prio :: (r.mat.mask.l.map (d7 .i64)++(r.mat.bits.l.map (d7 .i64)++[d7 .i64 r.step,si 1 (r.outs.map lAlt)])))) (r:=(r.mat.bits.l.map (d7 .i64)++[d7 .i64 r.step,si 1 (r.outs.map lAlt)])) r.mat.mask g3))) fun h hh=>?_;cases H;exact rt hh
def zmc (k:Nat) (port:Int) (tag:Int):Option Pat:=(if (0:Int)<=0/\0<(10:Int) then (if (0:Int)<=9/\9<(10:Int) then some (⟨((zA 10).set 0 65535).set 9 65535,((zA 10).set 0 port).set 9 tag⟩:Pat) else none) else none)
theorem ycn (ax:Axs) (hx:NoAx ax) (k:Nat) (port:Int) (tag:Int) (v:Pat) (H:zmc k port tag=some v):Pure Tryz.prog (EE ax) [] 70 [.int .i64 port,.int .i64 tag] (ePat v):=by
 rw [zmc] at H;refine en [.cell 4 101] 17 [0,1] (hx.no _ (by decide)) (fn70 ax) ?_;intro h hh;apply d6;refine rk [0,1,4] [] hh fun h hh=>?_;apply d6;refine rk [0,1,4,5] [] hh fun h hh=>?_;obtain ⟨g1,H⟩:=isg H;apply d6;refine rk [0,1,4,5] [] (f2 hh (yfd (k:=.i64) (L:=((zA 10).l.map (d7 .i64)++((zA 10).l.map (d7 .i64)))) (r:=((zA 10).l.map (d7 .i64))) (L2:=(((zA 10).set 0 65535).l.map (d7 .i64)++((zA 10).l.map (d7 .i64)))) (zA 10) 65535 g1)) fun h hh=>?_;obtain ⟨g2,H⟩:=isg H;apply d6;refine rk [0,1,4,5] [] (f2 hh (yfd (k:=.i64) (L:=(((zA 10).set 0 65535).l.map (d7 .i64)++((zA 10).l.map (d7 .i64)))) (r:=((zA 10).l.map (d7 .i64))) (L2:=((((zA 10).set 0 65535).set 9 65535).l.map (d7 .i64)++((zA 10).l.map (d7 .i64)))) ((zA 10).set 0 65535) 65535 g2)) fun h hh=>?_;apply d6;refine rk [1,4,5] [] (f2 hh (setAt (k:=.i64) (off:=10) (L:=((((zA 10).set 0 65535).set 9 65535).l.map (d7 .i64)++((zA 10).l.map (d7 .i64)))) (r:=[]) (L2:=((((zA 10).set 0 65535).set 9 65535).l.map (d7 .i64)++(((zA 10).set 0 port).l.map (d7 .i64)))) (p:=((((zA 10).set 0 65535).set 9 65535).l.map (d7 .i64))) (zA 10) port g1)) fun h hh=>?_;apply d6;refine rk [4,5] [] (f2 hh (setAt (k:=.i64) (off:=10) (L:=((((zA 10).set 0 65535).set 9 65535).l.map (d7 .i64)++(((zA 10).set 0 port).l.map (d7 .i64)))) (r:=[]) (L2:=((((zA 10).set 0 65535).set 9 65535).l.map (d7 .i64)++((((zA 10).set 0 port).set 9 tag).l.map (d7 .i64)))) (p:=((((zA 10).set 0 65535).set 9 65535).l.map (d7 .i64))) ((zA 10).set 0 port) tag g2)) fun h hh=>?_;apply d6;refine rk [4] [] hh fun h hh=>?_;cases H;exact rtc hh
def zf2 (k:Nat) (q:Pat):Nat->Int->(Ar 10)->(Ar 10)->Option ((Pat×Bool) ⊕ (Ar 10×Ar 10))
 |0,_,_,_=>none
 |m+1,i,x,x2=>(if i<160 then ((zfj k q.mask i).bind fun aj=>(if aj=0 then zf2 k q m (d9.wrap (i+1)) x x2 else ((((zfj k x i).bind fun am=>(if am=1 then ((zfj k x2 i).bind fun bp=>((zfj k q.bits i).bind fun di=>some (decide (bp≠di)))) else some false)):Option Bool).bind fun s_2=>(if s_2=true then some (.inl ((⟨zA 10,zA 10⟩:Pat),false)) else ((zkj k x i 1).bind fun bd=>((zfj k q.bits i).bind fun cj=>((zkj k x2 i cj).bind fun ck=>zf2 k q m (d9.wrap (i+1)) bd ck))))))) else some (.inr (x,x2)))
def zqp (k:Nat) (p:Pat) (q:Pat):Option (Pat×Bool):=((zf2 k q k 0 p.mask p.bits:Option ((Pat×Bool) ⊕ (Ar 10×Ar 10))).bind fun o=>i9 (fun r=>some r) (fun s_=>some ((⟨s_.1,s_.2⟩:Pat),true)) o)
theorem z67 (ax:Axs) (hx:NoAx ax) (k:Nat) (p:Pat) (q:Pat) (v:Pat×Bool) (H:zqp k p q=some v):Pure Tryz.prog (EE ax) [] 101 [ePat p,ePat q] (tupT [ePat v.1,.bool v.2]):=by
 rw [zqp] at H;refine enN [.cell 4 101,.tmp 5] 48 [0,1] (hx.no _ (by decide)) (fn101 ax) ?_;intro h hh;apply d6;refine rk [2,3,4] [] hh fun h hh=>?_;repeat apply d6
 refine rk [2,3,4,6] [] hh fun h hh=>?_;obtain ⟨o,H1,H⟩:=zad H;refine cu [2,4] 3 (fun h bs=>∃ s_:Ar 10×Ar 10,o=.inr s_/\(h 2=.ptr 0 0 20/\h 4=.ptr 2 0 20)/\bs=[.cells true 20 (s_.1.l.map (d7 .i64)++(s_.2.l.map (d7 .i64))),.cells true 20 (q.mask.l.map (d7 .i64)++(q.bits.l.map (d7 .i64))),.cells true 20 ((zA 10).l.map (d7 .i64)++((zA 10).l.map (d7 .i64)))]) ?_ ?_
 .skip;apply fo;refine iw [2,3,4,6] (fun m h bs=>∃ (i:Int) (x:Ar 10) (x2:Ar 10),zf2 k q m i x x2=some o/\(h 2=.ptr 0 0 20/\h 3=.ptr 1 0 20/\h 4=.ptr 2 0 20/\h 6=.int .i64 i)/\bs=[.cells true 20 (x.l.map (d7 .i64)++(x2.l.map (d7 .i64))),.cells true 20 (q.mask.l.map (d7 .i64)++(q.bits.l.map (d7 .i64))),.cells true 20 ((zA 10).l.map (d7 .i64)++((zA 10).l.map (d7 .i64)))]) ?_ k _ _ ?_;rotate_left
  .exact ⟨0,p.mask,p.bits,H1,kq hh,rfl⟩
  clear hh h H1;rintro m h bs ⟨i,x,x2,H1,hh,rfl⟩;rcases m with _|m
  .rw [zf2] at H1;cases H1
  rw [zf2] at H1;repeat apply d6
  refine rk [2,3,4,6,8] [] hh fun h hh=>?_;rcases isp H1 with ⟨c1,H1⟩|⟨c1,H1⟩;rotate_left
  .skip;refine cf (f2 hh (zAb c1)) ?_;refine xk ?_;cases H1;exact ce hh ⟨_,rfl,kq hh,rfl⟩
  refine ct (f2 hh (zAa c1)) ?_;refine sk ?_;apply d6;apply fo;obtain ⟨aj,e2,H1⟩:=zad H1;repeat apply d6
  refine rkp [2,3,4,6,15] [] [.int .i64 aj] hh ?_ ?_
  .exact ⟨ff ((zc0 ax hx k q.mask i aj e2 ).call _),trivial⟩
  clear hh h;intro h hh;rcases isp H1 with ⟨c3,H1⟩|⟨c3,H1⟩;rotate_left
  .skip;refine cf (f2 hh (zAb c3)) ?_;refine sk ?_;obtain ⟨s_2,H2,H1⟩:=zad H1;repeat apply d6
   refine cu [2,3,4,6,31] 3 (fun h bs=>(h 2=.ptr 0 0 20/\h 3=.ptr 1 0 20/\h 4=.ptr 2 0 20/\h 6=.int .i64 i/\h 31=.bool s_2)/\bs=[.cells true 20 (x.l.map (d7 .i64)++(x2.l.map (d7 .i64))),.cells true 20 (q.mask.l.map (d7 .i64)++(q.bits.l.map (d7 .i64))),.cells true 20 ((zA 10).l.map (d7 .i64)++((zA 10).l.map (d7 .i64)))]) ?_ ?_
   .skip;obtain ⟨am,e4,H2⟩:=zad H2;rcases isp H2 with ⟨c5,H2⟩|⟨c5,H2⟩;rotate_left
    .skip;refine dk 12 [2,3,4,6,31] [.int .i64 am] [] [] (f2 hh (zAb c5)) ?_ trivial ?_
     .exact ⟨(zc0 ax hx k x i am e4 ).call _,trivial⟩
     clear hh h;intro h hh;cases H2;exact ce hh ⟨kq hh,rfl⟩
    obtain ⟨bp,e6,H2⟩:=zad H2;obtain ⟨di,e7,H2⟩:=zad H2;refine dk 12 [2,3,4,6,31] [.int .i64 am,.int .i64 bp] [] [(.int .i64 di,stL [.cells true 20 (x.l.map (d7 .i64)++(x2.l.map (d7 .i64))),.cells true 20 (q.mask.l.map (d7 .i64)++(q.bits.l.map (d7 .i64))),.cells true 20 ((zA 10).l.map (d7 .i64)++((zA 10).l.map (d7 .i64)))])] (f2 hh (zAa c5)) ?_ ?_ ?_
    .exact ⟨(zc0 ax hx k x i am e4 ).call _,(zc0 ax hx k x2 i bp e6 ).call _,trivial⟩
    .exact ⟨ff ((zc0 ax hx k q.bits i di e7 ).call _),trivial⟩
    clear hh h;intro h hh;cases H2;exact ce hh ⟨kq hh,rfl⟩
   clear hh h;rintro h bs ⟨hh,rfl⟩;rcases isb H1 with ⟨c8,H1⟩|⟨c8,H1⟩;rotate_left
   .skip;refine cf (f2 hh c8) ?_;refine sk ?_;obtain ⟨bd,e9,H1⟩:=zad H1;apply d6;refine rkc [2,3,4,6] [] [(.agg (bd.l.map (d7 .i64)),stL [.cells true 20 (x.l.map (d7 .i64)++(x2.l.map (d7 .i64))),.cells true 20 (q.mask.l.map (d7 .i64)++(q.bits.l.map (d7 .i64))),.cells true 20 ((zA 10).l.map (d7 .i64)++((zA 10).l.map (d7 .i64)))])] (f2 hh c8) ?_ ?_
    .exact ⟨ff (gq (zpx ax hx k x i 1 bd e9 ) (by first|rfl|simp only [c8])),trivial⟩
    clear hh h;intro h hh;obtain ⟨cj,e10,H1⟩:=zad H1;obtain ⟨ck,e11,H1⟩:=zad H1;refine dk 7 [2,3,4,6] [.int .i64 cj] [] [(.agg (ck.l.map (d7 .i64)),stL [.cells true 20 (bd.l.map (d7 .i64)++(x2.l.map (d7 .i64))),.cells true 20 (q.mask.l.map (d7 .i64)++(q.bits.l.map (d7 .i64))),.cells true 20 ((zA 10).l.map (d7 .i64)++((zA 10).l.map (d7 .i64)))])] (f2 hh c8) ?_ ?_ ?_
    .exact ⟨gq (zc0 ax hx k q.bits i cj e10 ) (by first|rfl|simp only [c8]),trivial⟩
    .exact ⟨ff (gq (zpx ax hx k x2 i cj ck e11 ) (by first|rfl|simp only [c8])),trivial⟩
    clear hh h;intro h hh;refine rk [2,3,4,6] [] (f2 hh c8) fun h hh=>?_;exact rd m hh ⟨(d9.wrap (i+1)),bd,ck,H1,kq hh,rfl⟩
   refine ct (f2 hh c8) ?_;apply d6;refine rk [4,5] [] (f2 hh c8) fun h hh=>?_;cases H1;obtain rfl:=sinl H;exact rtc hh
  refine ct (f2 hh (zAa c3)) ?_;refine xk ?_;refine rk [2,3,4,6] [] hh fun h hh=>?_;exact rd m hh ⟨(d9.wrap (i+1)),x,x2,H1,kq hh,rfl⟩
 clear hh h;rintro h bs ⟨s_,rfl,hh,rfl⟩;replace H:=sinr H;apply d6;refine rk [4,5] [] hh fun h hh=>?_;cases H;exact rtc hh
def ze8 (k:Nat) (p:Pat) (q:Pat):Option Bool:=((zqp k p q).bind fun cn=>some cn.2)
theorem zu0 (ax:Axs) (hx:NoAx ax) (k:Nat) (p:Pat) (q:Pat) (v:Bool) (H:ze8 k p q=some v):Pure Tryz.prog (EE ax) [] 76 [ePat p,ePat q] (.bool v):=by
 rw [ze8] at H;refine en [.tmp 4] 14 [0,1] (hx.no _ (by decide)) (fn76 ax) ?_;intro h hh;apply d6;refine rk [2,3] [] hh fun h hh=>?_;obtain ⟨cn,e1,H⟩:=zad H;apply d6;refine rkc [6] [] [(.tup [ePat cn.1,.bool cn.2],stL [.cells true 20 (p.mask.l.map (d7 .i64)++(p.bits.l.map (d7 .i64))),.cells true 20 (q.mask.l.map (d7 .i64)++(q.bits.l.map (d7 .i64)))])] hh ?_ ?_
 .exact ⟨ff ((z67 ax hx k p q cn e1 ).call _),trivial⟩
 clear hh h;intro h hh;apply d6;refine rk [4] [] hh fun h hh=>?_;cases H;exact rt hh
def zdm (k:Nat) (t:List Rule) (port:Int) (tag:Int):Nat->Int->(List Int)->Nat->Option ((List Int) ⊕ (List Int×Nat))
 |0,_,_,_=>none
 |m+1,i,l,n=>(if i<(t.length:Int) then (if 0<=i/\i<(t.length:Int) then ((zmc k port tag).bind fun rAt=>((ze8 k ((gx t i).mat) rAt).bind fun be=>(if be=true then ((zla k (gx t i)).bind fun bk=>(if bk=true then (if (n+1)*9<=1000000000 then zdm k t port tag m (d9.wrap (i+1)) (l++[i]) (n+1) else none) else some (.inl []))) else zdm k t port tag m (d9.wrap (i+1)) l n))) else none) else some (.inr (l,n)))
def zhh (k:Nat) (t:List Rule) (port:Int) (tag:Int):Option (List Int):=((zdm k t port tag k 0 [] 0:Option ((List Int) ⊕ (List Int×Nat))).bind fun o=>i9 (fun r=>some r) (fun s_=>(if s_.1.length=s_.2 then some s_.1 else none)) o)
theorem z1c (ax:Axs) (hx:NoAx ax) (k:Nat) (t:List Rule) (port:Int) (tag:Int) (v:List Int) (H:zhh k t port tag=some v):Pure Tryz.prog (EE ax) [] 28 [zas t,.int .i64 port,.int .i64 tag] (ints v):=by
 rw [zhh] at H;refine en [.tmp 6] 40 [0,1,2] (hx.no _ (by decide)) (fn28 ax) ?_;intro h hh;apply d6;refine rk [0,1,2] [] hh fun h hh=>?_;apply d6;refine rk [0,1,2,7] [] hh fun h hh=>?_;refine vk 7 1 [0,1,2,7] hh fun h hh=>?_;repeat apply d6
 refine rk [0,1,2,7,8] [] hh fun h hh=>?_;obtain ⟨o,H1,H⟩:=zad H;refine cu [7] 1 (fun h bs=>∃ s_:List Int×Nat,o=.inr s_/\(h 7=.arr 0 1 0 s_.2 s_.2 s_.2)/\bs=[.cells false s_.2 (s_.1.map (d7 .i64))]) ?_ ?_
 .skip;apply fo;refine iw [0,1,2,7,8] (fun m h bs=>∃ (i:Int) (l:List Int) (n:Nat),zdm k t port tag m i l n=some o/\(h 0=zas t/\h 1=.int .i64 port/\h 2=.int .i64 tag/\h 7=.arr 0 1 0 n n n/\h 8=.int .i64 i)/\bs=[.cells false n (l.map (d7 .i64))]) ?_ k _ _ ?_;rotate_left
  .exact ⟨0,[],0,H1,kq hh,rfl⟩
  clear hh h H1;rintro m h bs ⟨i,l,n,H1,hh,rfl⟩;rcases m with _|m
  .rw [zdm] at H1;cases H1
  rw [zdm] at H1;repeat apply d6
  refine rk [0,1,2,7,8,14] [] hh fun h hh=>?_;rcases isp H1 with ⟨c1,H1⟩|⟨c1,H1⟩;rotate_left
  .skip;refine cf (f2 hh (zAb c1)) ?_;refine xk ?_;cases H1;exact ce hh ⟨_,rfl,kq hh,rfl⟩
  refine ct (f2 hh (zAa c1)) ?_;refine sk ?_;apply d6;apply fo;obtain ⟨g2,H1⟩:=isg H1;obtain ⟨rAt,e3,H1⟩:=zad H1;obtain ⟨be,e4,H1⟩:=zad H1;apply d6;refine dk 8 [0,1,2,7,8,9] [ePat rAt] [] [(.bool be,stL [.cells false n (l.map (d7 .i64))])] (f2 hh (zah g2)) ?_ ?_ ?_
  .exact ⟨(ycn ax hx k port tag rAt e3 ).call _,trivial⟩
  .exact ⟨ff ((zu0 ax hx k ((gx t i).mat) rAt be e4 ).call _),trivial⟩
  clear hh h;intro h hh;repeat apply d6
  refine rk [0,1,2,7,8,27] [] hh fun h hh=>?_;rcases isb H1 with ⟨c5,H1⟩|⟨c5,H1⟩;rotate_left
  .skip;refine ct (f2 hh c5) ?_;refine xk ?_;refine rk [0,1,2,7,8] [] (f2 hh c5) fun h hh=>?_;exact rd m hh ⟨(d9.wrap (i+1)),l,n,H1,kq hh,rfl⟩
  refine cf (f2 hh c5) ?_;refine sk ?_;obtain ⟨bk,e6,H1⟩:=zad H1;apply d6;refine rkp [0,1,2,7,8,10] [] [.bool bk] (f3 hh c5 (zah g2)) ?_ ?_
  .exact ⟨ff (gq (z08 ax hx k (gx t i) bk e6 ) (by first|rfl|simp only [c5])),trivial⟩
  clear hh h;intro h hh;repeat apply d6
  refine rk [0,1,2,7,8,34] [] (f2 hh c5) fun h hh=>?_;rcases isb H1 with ⟨c7,H1⟩|⟨c7,H1⟩;rotate_left
  .skip;refine ct (f2 hh c7) ?_;apply d6;refine rk [6] [] (f3 hh c5 c7) fun h hh=>?_;refine nk 6 1 [6] hh fun h hh=>?_;cases H1;obtain rfl:=sinl H;exact rt hh
  refine cf (f2 hh c7) ?_;refine sk ?_;obtain ⟨g8,H1⟩:=isg H1;refine rg [] [] [.cells false (n+1) ((l++[i]).map (d7 .i64))] (fun h=>h 0=zas t/\h 1=.int .i64 port/\h 2=.int .i64 tag/\h 7=.arr 0 1 0 (n+1) (n+1) (n+1)/\h 8=.int .i64 i) (f3 hh c5 c7) trivial fun h hh=>?_;refine rk [0,1,2,7,8] [] (f3 hh c5 c7) fun h hh=>?_;exact rd m hh ⟨(d9.wrap (i+1)),(l++[i]),(n+1),H1,kq hh,rfl⟩
 clear hh h;rintro h bs ⟨s_,rfl,hh,rfl⟩;replace H:=sinr H;apply d6;refine rk [6] [] hh fun h hh=>?_;obtain ⟨g9,H⟩:=isg H;refine nf 6 (b:=0) (e:=1) (off:=0) (len:=s_.2) (cap:=s_.2) (M:=s_.2) (s_.1.map (d7 .i64)) (kq hh) (by rfl) (by omega) (by omega) (by rw [fl,Nat.mul_one,zgb (fun _=>rfl),gc (by rw [ek];omega)]) (fun t ht=>by obtain ⟨x,_,rfl⟩:=ip.1 ht;first|rfl|exact zi7 _|exact zh5 _|exact zc6 _|exact zch _ | (rw [ek];rfl)) (by rw [ek]<;>exact g9) (by omega) ?_;rw [zhs _ _ _ (by simp only [lzA]<;>omega)];simp only [scA];refine gk [6] hh fun h hh=>?_;cases H;exact rt hh
structure ygu (c:zbc):Prop where
  tabs:c.tables.length<big
  tab:∀ t,t∈c.tables->z7r t
  steps:c.steps.length<big
  keys:∀ s,s∈c.steps->s.key.length<big
def znm (n:Net) (c:zbc):Bool:=decide (c.tables.length=n.nodes.length) && (decide (c.steps.length<=1000) && c.tables.all fun t=>decide ((zm2 n (c.steps.length:Int) t).2=0))
theorem yf1 {k:Nat} (n:Net) (c:zbc) (hc:ygu c) (hk:big<=k):zlc k n c=some (znm n c):=by
  unfold zlc znm;by_cases h1:c.tables.length=n.nodes.length
  . rw [zAd (by omega),zAa h1,dz];by_cases h2:c.steps.length<=1000
    . rw [zAd (by simp only [decide_eq_true_eq];omega),zAa h2]
      rw [zkr (L:=zd9 k n c) c.tables false (fun t=>decide ((zm2 n (c.steps.length:Int) t).2=0)) hc.tabs (fun m j h=>by
        rw [zd9,zAc (zae h),zAc ⟨by omega,zae h⟩,zca h,yf3 n _ _ (hc.tab _ (ft h)) hk,dz];by_cases q:(zm2 n (c.steps.length:Int) c.tables[j]).2=0
        . rw [zAd (fun h=>h q),zAc (zAa q)]
        . rw [zAc q,zAd (by simpa using q)]) (fun m=>by rw [zd9,zAd (by omega)]) (fh hc.tabs hk),dz]
      simp only [Bool.true_and];cases (c.tables.all fun t=>decide ((zm2 n (c.steps.length:Int) t).2=0))<;>rfl
    . rw [zAc (by simp only [decide_eq_true_eq];omega),zAb h2];rfl
  . rw [zAc (by omega),zAb h1];rfl
theorem ypz {k:Nat} (c:zbc) (most:Int) (hc:ygu c) (hk:big<=k):∃ r,zqj k c most=some r/\(r=true->c.tables.length<=40/\c.steps.length<=40/\∀ t,t∈c.tables->(t.length:Int)<=most):=by
  have key:∀ (m i:Nat) (q:Int),i<=c.tables.length->c.tables.length - i<m->(∀ j (h:j<c.tables.length),j<i->(c.tables[j].length:Int)<=most)->∃ o,zg3 k c most m q (i:Int)=some o/\(o=.inl false\/(∃ q',o=.inr q'/\∀ j (h:j<c.tables.length),(c.tables[j].length:Int)<=most)):=by
    intro m
    induction m with
    |zero=>intro i q h1 h2;omega
    |succ m ih =>
      intro i q h1 h2 hp;rw [zg3];by_cases hi:i<c.tables.length
      . rw [zAc (zae hi),zAc ⟨by omega,zae hi⟩,zca hi,yp0 _ most (hc.tab _ (ft hi)) hk,dz]
        cases hf:fewT c.tables[i] most with
        |false=>exact ⟨_,rfl,.inl rfl⟩
        |true =>
          rw [zAc rfl,zcu i (by have:=hc.tabs;simp only [big] at this;omega)];refine ih (i+1) _ (by omega) (by omega) fun j h hj=>?_;rcases Nat.lt_or_ge j i with w|w
          . exact hp j h w
          . have:j=i:=by omega
            subst this;unfold fewT at hf;simp only [d8,decide_eq_true_eq] at hf;exact hf.2
      . rw [zAd (by omega)];exact ⟨_,rfl,.inr ⟨_,rfl,fun j h=>hp j h (by omega)⟩⟩
  obtain ⟨o,h1,h2⟩:=key k 0 0 (gb _) (by have:=hc.tabs;omega) (fun j _ h=>by omega);unfold zqj;rw [show ((0:Nat):Int)=0 from rfl] at h1;rw [h1,dz];rcases h2 with rfl|⟨q,rfl,h3⟩
  . exact ⟨false,rfl,fun h=>by cases h⟩
  . show ∃ r,(if q<=most then (if (c.steps.length:Int)<=40 then some (decide ((c.tables.length:Int)<=40)) else some false) else some false)=some r/\_;split
    . split
      . refine ⟨_,rfl,fun h=>?_⟩;simp only [decide_eq_true_eq] at h;refine ⟨by omega,by omega,fun t ht=>?_⟩;obtain ⟨j,hj,rfl⟩:=List.getElem_of_mem ht;exact h3 j hj
      . exact ⟨false,rfl,fun h=>by cases h⟩
    . exact ⟨false,rfl,fun h=>by cases h⟩
structure Small (n:Net) (c:zbc):Prop where
  len:c.tables.length=n.nodes.length
  nodes:n.nodes.length<=10
  tabs:∀ j,j<c.tables.length->(c.tables.getD j default).length<=4000
  rules:∀ j,j<n.nodes.length->0<=(n.nodes.getD j default).rules/\(n.nodes.getD j default).rules<=4000
section
variable {k:Nat} {n:Net} {c:zbc} (hS:Small n c) (hk:big<=k)
include hS hk
end
/-! bits of words -/
theorem z6y {a b:Nat} (ha:a<2 ^ 64) (hb:b<2 ^ 64) (i:Nat):(a - (a &&& b)).testBit i=(a.testBit i && !b.testBit i):=by
  rw [<- zxj 64 ha hb,ke,show 2 ^ 64 - 1 - b=2 ^ 64 - (b+1) by omega,Nat.testBit_two_pow_sub_succ hb];by_cases hi:i<64
  . simp [hi]
  . have:a.testBit i=false:=Nat.testBit_lt_two_pow (fh ha (Nat.pow_le_pow_right (by decide) (by omega)));simp [this]
theorem zog {a b:Nat} (ha:a<65536) (hb:b<65536) (h:∀ t,t<16->a.testBit t=b.testBit t):a=b:=by
  apply n9;intro t;by_cases ht:t<16
  . exact h t ht
  . have e:65536<=2 ^ t:=Nat.pow_le_pow_right (n:=2) (by decide) (show 16<=t by omega);rw [Nat.testBit_lt_two_pow (fh ha e),Nat.testBit_lt_two_pow (fh hb e)]
theorem z87 {t s:Nat}:(2 ^ t).testBit s=decide (t=s):=Nat.testBit_two_pow
theorem yj3 {w t:Nat} (hw:w<65536) (ht:t<16) (h:w.testBit t=false):w+2 ^ t=w ||| 2 ^ t:=by
  have hp:2 ^ t<65536:=Nat.pow_lt_pow_right (by decide) ht;have ho:w ||| 2 ^ t<2 ^ 16:=ql hw hp
  have e1:(w ||| 2 ^ t) &&& 2 ^ t=2 ^ t:=by
    apply n9;intro s;rw [ke,nd];cases (2 ^ t).testBit s<;>simp
  have e2:(w ||| 2 ^ t) - ((w ||| 2 ^ t) &&& 2 ^ t)=w:=by
    apply n9;intro s;rw [z6y (by omega) (by omega),nd,z87];by_cases hs:t=s
    . subst hs;simp [h]
    . simp [hs]
  have e3:2 ^ t<=w ||| 2 ^ t:=Nat.right_le_or
  omega
theorem ypt {w t:Nat} (hw:w<65536) (ht:t<16) (h:w.testBit t=true):2 ^ t<=w/\∀ s,(w - 2 ^ t).testBit s=(w.testBit s && !decide (t=s)):=by
  have hp:2 ^ t<65536:=Nat.pow_lt_pow_right (by decide) ht
  have e1:w &&& 2 ^ t=2 ^ t:=by
    apply n9;intro s;rw [ke,z87];by_cases hs:t=s
    . subst hs;simp [h]
    . simp [hs]
  have h1:w &&& 2 ^ t<=w:=rc;refine ⟨by omega,fun s=>?_⟩;have:=z6y (a:=w) (b:=2 ^ t) (by omega) (by omega) s;rw [e1,z87] at this;exact this
/-! heads -/
def hw (h:Ar 10) (i:Nat):Nat:=(gx h.l (i:Int)).toNat
def hbit (h:Ar 10) (i:Nat):Bool:=(hw h (i / 16)).testBit (15 - i % 16)
theorem zc2 {h:Ar 10} (hr:zag h=true) {i:Nat} (hi:i<10):gx h.l (i:Int)=(hw h i:Int)/\hw h i<65536:=by
  obtain ⟨n,h1,h2⟩:=zmh hr hi;unfold hw;rw [h1];exact ⟨by simp,by simpa using h2⟩
theorem zxi (j t:Nat) (hj:j<10) (ht:t<16):(16*j+(15 - t)) / 16=j/\15 - (16*j+(15 - t)) % 16=t/\16*j+(15 - t)<160:=by omega
theorem zg8 (h:Ar 10) {j t:Nat} (hj:j<10) (ht:t<16):hbit h (16*j+(15 - t))=(hw h j).testBit t:=by
  obtain ⟨a,b,_⟩:=zxi j t hj ht;unfold hbit;rw [a,b]
theorem yjw {n:Nat} {a b:Ar n} (h:∀ j:Nat,j<n->gx a.l (j:Int)=gx b.l (j:Int)):a=b:=by
  apply Ar.ext';apply List.ext_getElem (by rw [a.h,b.h]);intro i h1 h2;have:=h i (by rw [<- a.h];exact h1)
  rwa [zca h1,zca h2] at this
theorem yli {a b:Ar 10} (ha:zag a=true) (hb:zag b=true) (h:∀ i,i<160->hbit a i=hbit b i):a=b:=by
  apply yjw;intro j hj;obtain ⟨a1,a2⟩:=zc2 ha hj;obtain ⟨b1,b2⟩:=zc2 hb hj;rw [a1,b1,zog a2 b2 fun t ht=>by rw [<- zg8 a hj ht,<- zg8 b hj ht];exact h _ (zxi j t hj ht).2.2]
theorem zit {h:Ar 10} (hh:∀ j:Nat,j<10->∃ n:Nat,gx h.l (j:Int)=(n:Int)/\n<65536):zag h=true:=by
  unfold zag;rw [zxk];intro j hj;have hj':j<10:=by rw [<- h.h];exact hj
  obtain ⟨n,h1,h2⟩:=hh j hj';rw [zca hj] at h1;rw [h1];exact zAa (by omega)
/-! one bit -/
theorem zyg {k i:Nat} (hi:i<160) (hk:16<k):zjp k (i:Int)=some ((2 ^ (15 - i % 16):Nat):Int):=by
  have key:∀ m kk,kk<=i % 16->i % 16 - kk<m->zfi k (i:Int) m ((2 ^ (15 - kk):Nat):Int) (kk:Int)=some ((2 ^ (15 - i % 16):Nat):Int):=by
    intro m
    induction m with
    |zero=>intro kk h1 h2;omega
    |succ m ih =>
      intro kk h1 h2;rw [zfi,zAc ⟨by omega,by decide⟩];by_cases c:kk<i % 16
      . have hp:2 ^ (15 - kk)=2 ^ (15 - (kk+1))*2:=by rw [<- Nat.pow_succ];congr 1;omega
        have hb:2 ^ (15 - kk)<=2 ^ 15:=Nat.pow_le_pow_right (by decide) (by omega);rw [zAc (by omega),zAc ⟨by omega,by decide⟩,zcu kk (by omega)];have e:d9.wrap (((2 ^ (15 - kk):Nat):Int) / 2)=((2 ^ (15 - (kk+1)):Nat):Int):=by rw [wr64 (by omega)];omega
        rw [e];exact ih (kk+1) (by omega) (by omega)
      . rw [zAd (by omega),show kk=i % 16 by omega]
  unfold zjp;have:=key k 0 (gb _) (by omega);rw [show ((2 ^ (15 - 0):Nat):Int)=32768 by decide] at this;rw [show (0:Int)=((0:Nat):Int) from rfl,this];rfl
theorem z84 {i:Nat} (hi:i<160):d9.wrap ((i:Int) / 16)=((i / 16:Nat):Int):=by rw [wr64 (by omega)];omega
theorem zil {k i:Nat} {h:Ar 10} (hr:zag h=true) (hi:i<160) (hk:16<k):zfj k h (i:Int)=some ((hbit h i).toNat:Int):=by
  unfold zfj;obtain ⟨a1,a2⟩:=zc2 hr (i:=i / 16) (by omega);rw [zAc ⟨by omega,by decide⟩,z84 hi,zAc ⟨by omega,by omega⟩,zyg hi hk,dz,a1];have hp:0<2 ^ (15 - i % 16):=Nat.two_pow_pos _;rw [zAc ⟨by omega,by omega⟩]
  have e:d9.wrap ((hw h (i / 16):Int) / ((2 ^ (15 - i % 16):Nat):Int))=((hw h (i / 16) / 2 ^ (15 - i % 16):Nat):Int):=by
    have:hw h (i / 16) / 2 ^ (15 - i % 16)<=hw h (i / 16):=Nat.div_le_self _ _;rw [<- Int.natCast_ediv];generalize hw h (i / 16) / 2 ^ (15 - i % 16)=q at *;rw [wr64 (by omega)]
  rw [e];unfold hbit;rw [Nat.testBit_eq_decide_div_mod_eq];generalize hw h (i / 16) / 2 ^ (15 - i % 16)=q at *;rw [zAc ⟨by omega,by decide⟩];congr 1;by_cases c:q % 2=1
  . rw [zAa c];simp only [Bool.toNat_true];omega
  . rw [zAb c];simp only [pn];omega
/-! matching -/
def zdk (p:Pat) (h:Ar 10):Bool:=(i7 160).all fun i=>!hbit p.mask i || (hbit p.bits i == hbit h i)
theorem zjs {p:Pat} {h:Ar 10}:zdk p h=true↔∀ i,i<160->hbit p.mask i=true->hbit p.bits i=hbit h i:=by
  unfold zdk;rw [fd];constructor
  . intro hh i hi hm;have:=hh i (jf.2 hi);rw [hm] at this;simpa using this
  . intro hh i hi;have:=hh i (jf.1 hi)
    cases hm:hbit p.mask i with
    |false=>rfl
    |true=>simpa using this hm
theorem zyb {b h m:Nat} (hb:b<65536) (hh:h<65536) (hm:m<65536):(b ^^^ h) &&& m=0↔∀ t,t<16->m.testBit t=true->b.testBit t=h.testBit t:=by
  constructor
  . intro h0 t ht h1;have:=congrArg (fun x=>Nat.testBit x t) h0;simp only [ke,Nat.testBit_xor,Nat.zero_testBit,h1,Bool.and_true] at this;revert this;cases b.testBit t<;>cases h.testBit t<;>simp
  . intro h0;apply zog (qi Nat.and_le_right hm) (by decide);intro t ht;simp only [ke,Nat.testBit_xor,Nat.zero_testBit]
    cases h1:m.testBit t with
    |false=>simp
    |true=>rw [h0 t ht h1];simp
theorem za5 {p:Pat}:zak p=true↔zag p.mask=true/\zag p.bits=true/\∀ i,i<160->hbit p.bits i=true->hbit p.mask i=true:=by
  unfold zak
  simp only [d8];refine and_congr_right fun hm=>and_congr_right fun hb=>?_;unfold zr3;rw [fd]
  have key:∀ j:Nat,j<10->(decide (iAnd .i64 (gx p.bits.l (j:Int)) (gx p.mask.l (j:Int))=gx p.bits.l (j:Int))=true↔∀ t,t<16->(hw p.bits j).testBit t=true->(hw p.mask j).testBit t=true):=by
    intro j hj;obtain ⟨a1,a2⟩:=zc2 hb hj;obtain ⟨b1,b2⟩:=zc2 hm hj;rw [a1,b1,zub (by omega) (by omega),decide_eq_true_eq];constructor
    . intro h t ht h1;have h':hw p.bits j &&& hw p.mask j=hw p.bits j:=by omega
      rw [<- h',ke] at h1;simp only [d8] at h1;exact h1.2
    . intro h;congr 1;apply zog (qi rc a2) a2;intro t ht;rw [ke]
      cases h1:(hw p.bits j).testBit t with
      |false=>rfl
      |true=>rw [h t ht h1];rfl
  constructor
  . intro h i hi h1;have:=(key (i / 16) (by omega)).1 (h _ (jf.2 (by omega))) (15 - i % 16) (by omega);exact this h1
  . intro h j hj;have hj':=jf.1 hj
    exact (key j hj').2 fun t ht h1=>by
      rw [<- zg8 p.mask hj' ht];exact h _ (zxi j t hj' ht).2.2 (by rw [zg8 p.bits hj' ht];exact h1)
theorem yqb {a:Nat} (h:a<160):(a:Int)<160:=by omega
theorem zui {a b:Bool}:((a.toNat:Int)≠(b.toNat:Int))↔a≠b:=by cases a<;>cases b<;>decide
theorem zmt {a:Bool}:((a.toNat:Int)=1)↔a=true:=by cases a<;>decide
theorem yf4 {k:Nat} {p:Pat} {h:Ar 10} (hp:zak p=true) (hh:zag h=true) (hk:160<k):zlj k p h=some (zdk p h):=by
  obtain ⟨pm,pb,_⟩:=za5.1 hp;unfold zlj
  rw [ziu (L:=zdn k p h) 160 false (fun i=>!hbit p.mask i || (hbit p.bits i == hbit h i)) (by decide) (fun m i hi=>by
    rw [zdn,zAc (yqb hi),zil pm hi (by omega),dz,zil pb hi (by omega),zil hh hi (by omega)];by_cases c:hbit p.mask i=true
    . rw [zAc (zmt.2 c),dz,dz,c];by_cases d:hbit p.bits i=hbit h i
      . rw [zAd (fun hq=>(zui.1 hq) d),zAc (by simp [d])]
      . rw [zAc (zui.2 d),zAd (by simp [d])]
    . rw [zAd (fun hq=>c (zmt.1 hq)),zAc (by simp [c])]) (fun m=>by rw [zdn];exact zAd (by decide)) hk,dz]
  unfold zdk;cases (i7 160).all _<;>rfl
/-! rewriting -/
def zqf (m:Pat) (h x:Ar 10):Prop:=zag x=true/\∀ i,i<160->hbit x i=if hbit m.mask i=true then hbit m.bits i else hbit h i
theorem zqf.uniq {m:Pat} {h x y:Ar 10} (a:zqf m h x) (b:zqf m h y):x=y:=yli a.1 b.1 fun i hi=>by rw [a.2 i hi,b.2 i hi]
theorem zf8 {n:Nat} {a:Ar n} {i:Nat} (v:Int) (hi:i<n):gx (a.set (i:Int) v).l (i:Int)=v:=by
  show (a.l.set i v).getD i default=v;rw [eh,List.getElem?_set_self (by rw [a.h];exact hi)];rfl
theorem zix {n:Nat} {a:Ar n} {i j:Nat} (v:Int) (hj:j<n) (h:i≠j):gx (a.set (i:Int) v).l (j:Int)=gx a.l (j:Int):=by
  show (a.l.set i v).getD j default=a.l.getD j default;rw [eh,eh,List.getElem?_set_ne h]
theorem zsu {k:Nat} {m:Pat} {h:Ar 10} (hp:zak m=true) (hh:zag h=true) (hk:10<k):∃ x,zif k m h=some x/\zqf m h x:=by
  obtain ⟨pm,pb,pw⟩:=za5.1 hp
  have hfold:=z4u (L:=zdt k m) 10 (fun x i=>x.set (i:Int) (iOr .i64 (z79 .i64 (gx x.l (i:Int)) (gx m.mask.l (i:Int))) (gx m.bits.l (i:Int))))
    (fun j x=>∀ i:Nat,i<10->gx x.l (i:Int)=if i<j then ((((hw h i - (hw h i &&& hw m.mask i)) ||| hw m.bits i:Nat)):Int) else (hw h i:Int)) (by decide)
    (fun fu j x hj hI=>by
      obtain ⟨a1,a2⟩:=zc2 pb hj;obtain ⟨b1,b2⟩:=zc2 pm hj;obtain ⟨c1,c2⟩:=zc2 hh hj;refine ⟨by rw [zdt,zAc (lt10 hj),zAc ⟨by omega,lt10 hj⟩],fun i hi=>?_⟩;by_cases hij:j=i
      . subst hij;have h0:=hI j hj;rw [zAd (Nat.lt_irrefl j)] at h0;rw [zf8 _ hi,zAc (Nat.lt_succ_self j),h0,b1,a1,yh3 (by omega) (by omega),yh2 (by omega) (by omega)]
      . rw [zix _ hi hij,hI i hi];by_cases hlt:i<j
        . rw [zAc hlt,zAc (by omega)]
        . rw [zAd hlt,zAd (by omega)]) (fun fu x _=>by rw [zdt];exact zAd (by decide)) hk (s:=h) (fun i hi=>by rw [zAd (Nat.not_lt_zero i)];exact (zc2 hh hi).1)
  obtain ⟨h1,h2⟩:=hfold;refine ⟨_,by unfold zif;rw [h1];rfl,?_⟩;generalize (i7 10).foldl _ h=x at h2 ⊢;have hx:∀ i:Nat,i<10->gx x.l (i:Int)=((((hw h i - (hw h i &&& hw m.mask i)) ||| hw m.bits i:Nat)):Int):=fun i hi=>by rw [h2 i hi,zAc hi]
  have hlt:∀ i,i<10->((hw h i - (hw h i &&& hw m.mask i)) ||| hw m.bits i)<65536:=fun i hi=>ql (n:=16) (by have:=(zc2 hh hi).2;omega) (zc2 pb hi).2;refine ⟨zit fun j hj=>⟨_,hx j hj,hlt j hj⟩,fun i hi=>?_⟩;have hi10:i / 16<10:=by omega
  have e1:hw x (i / 16)=(hw h (i / 16) - (hw h (i / 16) &&& hw m.mask (i / 16))) ||| hw m.bits (i / 16):=by
    unfold hw;rw [hx (i / 16) hi10];rfl
  have hpw:=pw i hi;unfold hbit at hpw ⊢;rw [e1,nd,z6y (by have:=(zc2 hh hi10).2;omega) (by have:=(zc2 pm hi10).2;omega)]
  cases hm:(hw m.mask (i / 16)).testBit (15 - i % 16) with
  |true=>simp
  |false =>
    cases hb:(hw m.bits (i / 16)).testBit (15 - i % 16) with
    |true=>rw [hpw hb] at hm;cases hm
    |false=>simp
theorem z1m {k i:Nat} {h:Ar 10} {b:Bool} (hr:zag h=true) (hi:i<160) (hk:16<k):∃ x,zkj k h (i:Int) (b.toNat:Int)=some x/\zag x=true/\∀ j,j<160->hbit x j=if j=i then b else hbit h j:=by
  unfold zkj;obtain ⟨a1,a2⟩:=zc2 hr (i:=i / 16) (by omega);rw [zAc ⟨by omega,by decide⟩,z84 hi,zAc ⟨by omega,by omega⟩,zil hr hi hk,dz,zyg hi hk,dz,a1];have ht:15 - i % 16<16:=by omega
  have hp:2 ^ (15 - i % 16)<65536:=Nat.pow_lt_pow_right (by decide) ht;have hpp:0<2 ^ (15 - i % 16):=Nat.two_pow_pos _;have hi10:i / 16<10:=by omega
  -- the new word
  have hnew:∃ w:Nat,d9.wrap ((hw h (i / 16):Int)+d9.wrap (d9.wrap ((b.toNat:Int) - ((hbit h i).toNat:Int))*((2 ^ (15 - i % 16):Nat):Int)))=(w:Int)/\w<65536/\∀ s,w.testBit s=if s=15 - i % 16 then b else (hw h (i / 16)).testBit s:=by
    cases hb:hbit h i with
    |false =>
      have hb':(hw h (i / 16)).testBit (15 - i % 16)=false:=hb
      cases b with
      |false =>
        refine ⟨hw h (i / 16),?_,a2,fun s=>?_⟩
        . simp only [pn,Int.natCast_zero,Int.sub_self];rw [wr64 (n:=0) (by omega),Int.zero_mul,wr64 (n:=0) (by omega),Int.add_zero,wr64 (by omega)]
        . by_cases hs:s=15 - i % 16
          . rw [zAc hs,hs,hb']
          . rw [zAd hs]
      |true =>
        refine ⟨hw h (i / 16)+2 ^ (15 - i % 16),?_,?_,fun s=>?_⟩
        . simp only [Bool.toNat_true,pn];rw [wr64 (n:=((1:Nat):Int) - ((0:Nat):Int)) (by omega),show ((1:Nat):Int) - ((0:Nat):Int)=1 by omega,Int.one_mul,wr64 (n:=((2 ^ (15 - i % 16):Nat):Int)) (by omega),wr64 (by omega)];omega
        . rw [yj3 a2 ht hb'];exact ql (n:=16) a2 hp
        . rw [yj3 a2 ht hb',nd,z87];by_cases hs:s=15 - i % 16
          . rw [zAc hs];simp [hs]
          . rw [zAd hs];simp [Ne.symm hs]
    |true =>
      have hb':(hw h (i / 16)).testBit (15 - i % 16)=true:=hb;obtain ⟨g1,g2⟩:=ypt a2 ht hb'
      cases b with
      |true =>
        refine ⟨hw h (i / 16),?_,a2,fun s=>?_⟩
        . simp only [Int.sub_self];rw [wr64 (n:=0) (by omega),Int.zero_mul,wr64 (n:=0) (by omega),Int.add_zero,wr64 (by omega)]
        . by_cases hs:s=15 - i % 16
          . rw [zAc hs,hs,hb']
          . rw [zAd hs]
      |false =>
        refine ⟨hw h (i / 16) - 2 ^ (15 - i % 16),?_,by omega,fun s=>?_⟩
        . simp only [Bool.toNat_true,pn];rw [wr64 (n:=((0:Nat):Int) - ((1:Nat):Int)) (by omega),show ((0:Nat):Int) - ((1:Nat):Int)=-1 by omega,wr64 (n:=-1*((2 ^ (15 - i % 16):Nat):Int)) (by omega),wr64 (by omega)];omega
        . rw [g2];by_cases hs:s=15 - i % 16
          . rw [zAc hs];simp [hs]
          . rw [zAd hs];simp [Ne.symm hs]
  obtain ⟨w,e1,e2,e3⟩:=hnew;refine ⟨_,rfl,?_,?_⟩
  . rw [e1];refine zit fun j hj=>?_;by_cases hij:i / 16=j
    . subst hij;exact ⟨w,zf8 _ hj,e2⟩
    . rw [zix _ hj hij];exact ⟨_,(zc2 hr hj).1,(zc2 hr hj).2⟩
  . intro j hj;rw [e1];unfold hbit;have hj10:j / 16<10:=by omega
    by_cases hij:i / 16=j / 16
    . have:hw (h.set ((i / 16:Nat):Int) (w:Int)) (j / 16)=w:=by
        unfold hw;rw [<- hij,zf8 _ hi10];rfl
      rw [this,e3,<- hij];by_cases hm:j=i
      . subst hm;rw [zAc rfl,zAc rfl]
      . rw [zAd hm,zAd (by omega)]
    . have:hw (h.set ((i / 16:Nat):Int) (w:Int)) (j / 16)=hw h (j / 16):=by
        unfold hw;rw [zix _ hj10 hij]
      rw [this,zAd (fun hm=>hij (by rw [hm]))]
theorem zvn {k:Nat} {m:Pat} {h:Ar 10} (hp:zak m=true) (hh:zag h=true) (hk:160<k):∃ x,zhj k m h=some x/\zqf m h x:=by
  obtain ⟨pm,pb,pw⟩:=za5.1 hp
  have key:∀ fu i (x:Ar 10),i<=160->160 - i<fu->zag x=true->(∀ j,j<160->hbit x j=if j<i/\hbit m.mask j=true then hbit m.bits j else hbit h j)->∃ y,zea k m fu (i:Int) x=some y/\zqf m h y:=by
    intro fu
    induction fu with
    |zero=>intro i x h1 h2;omega
    |succ fu ih =>
      intro i x h1 h2 h3 h4;rw [zea];by_cases c:i<160
      . rw [zAc (yqb c),zil pm c (by omega),dz,zil pb c (by omega),zcu i (by omega)];by_cases d:hbit m.mask i=true
        . rw [zAc (zmt.2 d),dz];obtain ⟨y,s1,s2,s3⟩:=z1m (b:=hbit m.bits i) h3 c (show 16<k by omega);rw [s1,dz];refine ih (i+1) y (by omega) (by omega) s2 fun j hj=>?_;rw [s3 j hj];by_cases hji:j=i
          . subst hji;rw [zAc rfl,zAc ⟨by omega,d⟩]
          . rw [zAd hji,h4 j hj];by_cases hq:j<i/\hbit m.mask j=true
            . rw [zAc hq,zAc ⟨by omega,hq.2⟩]
            . rw [zAd hq,zAd (fun hh2=>hq ⟨by omega,hh2.2⟩)]
        . rw [zAd (fun hq=>d (zmt.1 hq))];refine ih (i+1) x (by omega) (by omega) h3 fun j hj=>?_;rw [h4 j hj];by_cases hji:j=i
          . subst hji;rw [zAd (fun hq=>d hq.2),zAd (fun hq=>d hq.2)]
          . by_cases hq:j<i/\hbit m.mask j=true
            . rw [zAc hq,zAc ⟨by omega,hq.2⟩]
            . rw [zAd hq,zAd (fun hh2=>hq ⟨by omega,hh2.2⟩)]
      . obtain rfl:i=160:=by omega
        rw [zAd (by decide)];refine ⟨x,rfl,h3,fun j hj=>?_⟩;rw [h4 j hj];by_cases hq:hbit m.mask j=true
        . rw [zAc ⟨hj,hq⟩,zAc hq]
        . rw [zAd (fun hh2=>hq hh2.2),zAd hq]
  obtain ⟨y,h1,h2⟩:=key k 0 h (by omega) (by omega) hh fun j hj=>by rw [zAd (fun hq=>Nat.not_lt_zero _ hq.1)]
  refine ⟨y,?_,h2⟩;unfold zhj;rw [show (0:Int)=((0:Nat):Int) from rfl,h1];rfl
def zkf (p q:Pat):Bool:=(i7 160).all fun i=>!(hbit p.mask i && hbit q.mask i) || (hbit p.bits i == hbit q.bits i)
theorem zlq {p q:Pat}:zkf p q=true↔∀ i,i<160->hbit p.mask i=true->hbit q.mask i=true->hbit p.bits i=hbit q.bits i:=by
  unfold zkf;rw [fd];constructor
  . intro hh i hi hm hq;have:=hh i (jf.2 hi);rw [hm,hq] at this;simpa using this
  . intro hh i hi;have:=hh i (jf.1 hi)
    cases hm:hbit p.mask i with
    |false=>rfl
    |true =>
      cases hq:hbit q.mask i with
      |false=>rfl
      |true=>simpa using this hm hq
theorem z6k {k:Nat} {p q:Pat} (hp:zak p=true) (hq:zak q=true) (hk:10<k):zfk k p q=some (zkf p q):=by
  obtain ⟨pm,pb,_⟩:=za5.1 hp;obtain ⟨qm,qb,_⟩:=za5.1 hq;unfold zfk
  rw [ziu (L:=zcs k p q) 10 false (fun j=>decide ((hw p.bits j ^^^ hw q.bits j) &&& (hw p.mask j &&& hw q.mask j)=0)) (by decide) (fun m j hj=>by
    obtain ⟨a1,a2⟩:=zc2 pb hj;obtain ⟨b1,b2⟩:=zc2 pm hj;obtain ⟨c1,c2⟩:=zc2 qb hj;obtain ⟨d1,d2⟩:=zc2 qm hj;have hx:hw p.bits j ^^^ hw q.bits j<2 ^ 16:=Nat.xor_lt_two_pow a2 c2;have hy:(hw p.bits j ^^^ hw q.bits j) &&& hw p.mask j<=hw p.mask j:=Nat.and_le_right;rw [zcs,zAc (lt10 hj),zAc ⟨by omega,lt10 hj⟩,a1,b1,c1,d1,ylh (by omega) (by omega),zub (by omega) (by omega),zub (by omega) (by omega),Nat.and_assoc];by_cases c:(hw p.bits j ^^^ hw q.bits j) &&& (hw p.mask j &&& hw q.mask j)=0
    . rw [zAd (by omega),zAc (zAa c)]
    . rw [zAc (by omega),zAd (by rw [decide_eq_true_eq];exact c)]) (fun m=>by rw [zcs];exact zAd (by decide)) hk,dz]
  have e:(i7 10).all (fun j=>decide ((hw p.bits j ^^^ hw q.bits j) &&& (hw p.mask j &&& hw q.mask j)=0))=zkf p q:=by
    rw [Bool.eq_iff_iff,fd,zlq];have hand:∀ j,j<10->hw p.mask j &&& hw q.mask j<65536:=fun j hj=>qi rc (zc2 pm hj).2;constructor
    . intro hall i hi h1 h2;have:=zAe (hall (i / 16) (jf.2 (by omega)));refine (zyb (zc2 pb (by omega)).2 (zc2 qb (by omega)).2 (hand (i / 16) (by omega))).1 this (15 - i % 16) (by omega) ?_;rw [ke];unfold hbit at h1 h2;rw [h1,h2];rfl
    . intro hall j hj;have hj':=jf.1 hj;refine zAa ((zyb (zc2 pb hj').2 (zc2 qb hj').2 (hand j hj')).2 fun t ht h1=>?_);rw [ke,d8] at h1;rw [<- zg8 p.bits hj' ht,<- zg8 q.bits hj' ht];exact hall _ (zxi j t hj' ht).2.2 (by rw [zg8 p.mask hj' ht];exact h1.1) (by rw [zg8 q.mask hj' ht];exact h1.2)
  rw [e];cases zkf p q<;>rfl
structure Meet (p q r:Pat):Prop where
  mask:zag r.mask=true
  bits:zag r.bits=true
  hm:∀ j,j<160->hbit r.mask j=(hbit p.mask j || hbit q.mask j)
  hb:∀ j,j<160->hbit r.bits j=if hbit q.mask j=true then hbit q.bits j else hbit p.bits j
theorem z6i {a:Bool}:((a.toNat:Int)=0)↔a=false:=by cases a<;>decide
structure AndI (p q:Pat) (i:Nat) (x y:Ar 10):Prop where
  rx:zag x=true
  ry:zag y=true
  hx:∀ j,j<160->hbit x j=(hbit p.mask j || (decide (j<i) && hbit q.mask j))
  hy:∀ j,j<160->hbit y j=if (decide (j<i) && hbit q.mask j)=true then hbit q.bits j else hbit p.bits j
  ok:∀ j,j<i->hbit p.mask j=true->hbit q.mask j=true->hbit p.bits j=hbit q.bits j
theorem yp1 {k:Nat} {p q:Pat} (hp:zak p=true) (hq:zak q=true) (hk:160<k):∃ r,zqp k p q=some r/\((zkf p q=false/\r.2=false)\/(zkf p q=true/\r.2=true/\Meet p q r.1)):=by
  obtain ⟨pm,pb,pw⟩:=za5.1 hp;obtain ⟨qm,qb,qw⟩:=za5.1 hq
  have key:∀ m i x y,i<=160->160 - i<m->AndI p q i x y->∃ o,zf2 k q m (i:Int) x y=some o/\((∃ r,o=.inl r/\r.2=false/\zkf p q=false)\/∃ x y,o=.inr (x,y)/\AndI p q 160 x y):=by
    intro m
    induction m with
    |zero=>intro i x y h1 h2;omega
    |succ m ih =>
      intro i x y h1 h2 hI;rw [zf2];by_cases c:i<160
      . rw [zAc (yqb c),zil qm c (by omega),dz,zcu i (by omega)];by_cases c1:hbit q.mask i=false
        . rw [zAc (z6i.2 c1)]
          have hd:∀ j,(decide (j<i+1) && hbit q.mask j)=(decide (j<i) && hbit q.mask j):=fun j=>by
            by_cases e:j=i
            . subst e;rw [c1];simp
            . rw [show decide (j<i+1)=decide (j<i) from decide_eq_decide.2 (by omega)]
          refine ih (i+1) x y (by omega) (by omega) ⟨hI.rx,hI.ry,fun j hj=>by rw [hd,hI.hx j hj],fun j hj=>by rw [hd,hI.hy j hj],fun j hj h3 h4=>?_⟩;by_cases e:j=i
          . rw [e,c1] at h4;cases h4
          . exact hI.ok j (by omega) h3 h4
        . have c1':hbit q.mask i=true:=by simpa using c1
          have xi:hbit x i=hbit p.mask i:=by rw [hI.hx i c];simp
          have yi:hbit y i=hbit p.bits i:=by rw [hI.hy i c,zAd (by simp)]
          rw [zAd (fun h=>c1 (z6i.1 h)),zil hI.rx c (by omega),dz,zil hI.ry c (by omega),dz,zil qb c (by omega),dz,xi,yi];by_cases c2:hbit p.mask i=true/\hbit p.bits i≠hbit q.bits i
          . rw [zAc (zmt.2 c2.1),dz,zAc (zAa (zui.2 c2.2))];refine ⟨_,rfl,.inl ⟨_,rfl,rfl,?_⟩⟩
            cases ho:zkf p q with
            |false=>rfl
            |true=>exact absurd (zlq.1 ho i c c2.1 c1') c2.2
          . have e2:(if ((hbit p.mask i).toNat:Int)=1 then some (decide (((hbit p.bits i).toNat:Int)≠((hbit q.bits i).toNat:Int))) else some false)=some false:=by
              by_cases c3:hbit p.mask i=true
              . have:hbit p.bits i=hbit q.bits i:=mj fun h=>c2 ⟨c3,h⟩;rw [zAc (zmt.2 c3),zAb (fun h=>(zui.1 h) this)]
              . rw [zAd (fun h=>c3 (zmt.1 h))]
            rw [e2,dz,zAd (by simp)];obtain ⟨x2,s1,s2,s3⟩:=z1m (k:=k) (b:=true) hI.rx c (by omega);obtain ⟨y2,t1,t2,t3⟩:=z1m (k:=k) (b:=hbit q.bits i) hI.ry c (by omega);have s1':zkj k x (i:Int) 1=some x2:=s1;rw [s1',dz,dz,t1,dz];refine ih (i+1) x2 y2 (by omega) (by omega) ⟨s2,t2,fun j hj=>?_,fun j hj=>?_,fun j hj h3 h4=>?_⟩
            . rw [s3 j hj];by_cases e:j=i
              . subst e;rw [zAc rfl,c1'];simp
              . rw [zAd e,hI.hx j hj,show decide (j<i+1)=decide (j<i) from decide_eq_decide.2 (by omega)]
            . rw [t3 j hj];by_cases e:j=i
              . subst e;rw [zAc rfl,c1',zAc (by simp)]
              . rw [zAd e,hI.hy j hj,show decide (j<i+1)=decide (j<i) from decide_eq_decide.2 (by omega)]
            . by_cases e:j=i
              . subst e;exact mj fun h=>c2 ⟨h3,h⟩
              . exact hI.ok j (by omega) h3 h4
      . obtain rfl:i=160:=by omega
        rw [zAd (by decide)];exact ⟨_,rfl,.inr ⟨x,y,rfl,hI⟩⟩
  obtain ⟨o,e,h⟩:=key k 0 p.mask p.bits (by omega) (by omega) ⟨pm,pb,fun j hj=>by simp,fun j hj=>by simp,fun j hj=>by omega⟩;unfold zqp;rw [show ((0:Nat):Int)=0 from rfl] at e;rw [e,dz];rcases h with ⟨r,rfl,h1,h2⟩|⟨x,y,rfl,hI⟩
  . exact ⟨r,rfl,.inl ⟨h2,h1⟩⟩
  . refine ⟨_,rfl,.inr ⟨zlq.2 fun i hi=>hI.ok i hi,rfl,hI.rx,hI.ry,fun j hj=>?_,fun j hj=>?_⟩⟩
    . rw [hI.hx j hj];simp [hj]
    . rw [hI.hy j hj];simp [hj]
theorem zvm {k:Nat} {p q:Pat} (hp:zak p=true) (hq:zak q=true) (hk:160<k):ze8 k p q=some (zkf p q):=by
  obtain ⟨r,e,h⟩:=yp1 hp hq hk;unfold ze8;rw [e,dz];rcases h with ⟨h1,h2⟩|⟨h1,h2,_⟩<;>rw [h1,h2]
def spP (s:Spot):Pat:=⟨((zA 10).set 0 65535).set 9 65535,((zA 10).set 0 s.port).set 9 s.tag⟩
theorem z1l (s:Spot):(spP s).mask.l=[65535,0,0,0,0,0,0,0,0,65535]:=rfl
theorem zol (s:Spot):(spP s).bits.l=[s.port,0,0,0,0,0,0,0,0,s.tag]:=rfl
theorem ytj {x:Int} (h:zbf x=true):iAnd .i64 x 65535=x:=by
  obtain ⟨n,rfl,hn⟩:=zjr h;rw [show (65535:Int)=((65535:Nat):Int) from rfl,zub (by omega) (by omega)];congr 1;exact Nat.and_two_pow_sub_one_of_lt_two_pow (n:=16) hn
theorem zhx {s:Spot} (hp:zbf s.port=true) (ht:zbf s.tag=true):zak (spP s)=true:=by
  unfold zak
  have h1:zag (spP s).mask=true:=by unfold zag;rw [z1l];rfl
  have h2:zag (spP s).bits=true:=by
    unfold zag;rw [zol];simp only [List.all_cons,List.all_nil,hp,ht];rfl
  have h3:zr3 (spP s)=true:=by
    unfold zr3;rw [z1l,zol,fd];intro i hi;have hi:=jf.1 hi;have z:iAnd .i64 0 0=0:=rfl;rw [decide_eq_true_eq];rcases i with _|_|_|_|_|_|_|_|_|_|i
    . exact ytj hp
    . exact z
    . exact z
    . exact z
    . exact z
    . exact z
    . exact z
    . exact z
    . exact z
    . exact ytj ht
    . omega
  rw [h1,h2,h3];rfl
theorem zok (s:Spot) {i:Nat} (hi:i<160):hbit (spP s).mask i=decide (i / 16=0\/i / 16=9):=by
  unfold hbit hw;have hj:i / 16<10:=by omega
  have hb:15 - i % 16<16:=by omega
  rw [z1l];generalize 15 - i % 16=t at hb;generalize i / 16=j at hj
  have e1:((65535:Int)).toNat.testBit t=true:=by
    show (65535:Nat).testBit t=true;rw [show (65535:Nat)=2 ^ 16 - 1 from rfl,jw];exact zAa hb
  have e0:((0:Int)).toNat.testBit t=false:=Nat.zero_testBit t;rcases j with _|_|_|_|_|_|_|_|_|_|j
  . exact e1
  . exact e0
  . exact e0
  . exact e0
  . exact e0
  . exact e0
  . exact e0
  . exact e0
  . exact e0
  . exact e1
  . omega
theorem zrj {h:Ar 10} {j t:Nat} (hj:j<10) (ht:t<16) (hf:gx h.l (j:Int)=65535):hbit h (16*j+(15 - t))=true:=by
  rw [zg8 h hj ht];unfold hw;rw [hf];show (65535:Nat).testBit t=true;rw [show (65535:Nat)=2 ^ 16 - 1 from rfl,jw];exact zAa ht
theorem zoq {r:Rule} {s:Spot} (hr:zak r.mat=true) (hp:zbf s.port=true) (ht:zbf s.tag=true) (he:exB r=true):zkf r.mat (spP s)=decide (zdi r=s):=by
  obtain ⟨pm,pb,_⟩:=za5.1 hr;obtain ⟨sm,sb,_⟩:=za5.1 (zhx hp ht);unfold exB at he;simp only [d8,decide_eq_true_eq] at he
  have word:∀ j:Nat,(j=0\/j=9)->(∀ i,i<160->hbit r.mat.mask i=true->hbit (spP s).mask i=true->hbit r.mat.bits i=hbit (spP s).bits i)->gx r.mat.bits.l (j:Int)=gx (spP s).bits.l (j:Int):=by
    intro j hj0 h;have hj:j<10:=by omega
    obtain ⟨a1,a2⟩:=zc2 pb hj;obtain ⟨b1,b2⟩:=zc2 sb hj;rw [a1,b1];congr 1;refine zog a2 b2 fun t ht'=>?_;have hi:=zxi j t hj ht';have:=h (16*j+(15 - t)) hi.2.2 (zrj hj ht' (by rcases hj0 with rfl|rfl;exact he.1;exact he.2)) (by rw [zok s hi.2.2,hi.1];exact zAa hj0);rw [zg8 _ hj ht',zg8 _ hj ht'] at this;exact this
  by_cases hs:zdi r=s
  . rw [zAa hs,zlq];intro i hi _ h2;rw [zok s hi,decide_eq_true_eq] at h2;unfold hbit
    have e:hw r.mat.bits (i / 16)=hw (spP s).bits (i / 16):=by
      unfold hw;rw [<- hs];rcases h2 with h2|h2<;>rw [h2]<;>rfl
    rw [e]
  . rw [zAb hs]
    cases ho:zkf r.mat (spP s) with
    |false=>rfl
    |true =>
      have h:=zlq.1 ho;have h0:=word 0 (.inl rfl) h;have h9:=word 9 (.inr rfl) h;refine absurd ?_ hs;unfold zdi;obtain ⟨p,t⟩:=s;have e0:gx r.mat.bits.l 0=p:=h0;have e9:gx r.mat.bits.l 9=t:=h9;rw [e0,e9]
def qs (s:Spot) (r:Rule):Bool:=exB r && decide (zdi r=s)
def idxF (q:Rule->Bool):List Rule->Int->List Int
  |[],_=>[]
  |r :: l,i=>if q r=true then i :: idxF q l (i+1) else idxF q l (i+1)
theorem z40 (q:Rule->Bool) (r:Rule):∀ (l:List Rule) (i:Int),idxF q (l++[r]) i=idxF q l i++(if q r=true then [i+(l.length:Int)] else [])
  |[],i=>by simp [idxF]
  |x :: l,i=>by
    rw [fq,idxF,idxF,z40 q r l,ez];have e:i+1+(l.length:Int)=i+((l.length+1:Nat):Int):=by omega
    rw [e];split<;>rfl
theorem z17 (q:Rule->Bool):∀ (l:List Rule) (i:Int),(idxF q l i).length<=l.length
  |[],i=>Nat.le_refl _
  |x :: l,i=>by
    rw [idxF];have:=z17 q l (i+1);split<;>simp only [ez]<;>omega
theorem z76 (q:Rule->Bool):∀ (l:List Rule) (i:Int) (x:Int),x∈idxF q l i->i<=x
  |[],i,x,h=>by simp [idxF] at h
  |y :: l,i,x,h=>by
    rw [idxF] at h;split at h
    . rcases ic.1 h with rfl|h
      . exact Int.le_refl _
      . have:=z76 q l _ x h;omega
    . have:=z76 q l _ x h;omega
def zks:List Rule->List Spot->List Spot
  |[],K=>K
  |r :: l,K=>zks l (if exB r=true/\zdi r ∉ K then K++[zdi r] else K)
def zr4 (a:List (Spot×List Int)) (s:Spot):List Int:=match a.find? (fun p=>decide (p.1=s)) with|some p=>p.2|none=>[]
theorem ycd (s0:Spot) (i:Int) (s:Spot):∀ a:List (Spot×List Int),zr4 (addS s0 i a) s=if s=s0 then zr4 a s++[i] else zr4 a s
  |[]=>by
    unfold addS zr4;by_cases h:s=s0
    . subst h;simp
    . rw [zAd h];simp [Ne.symm h]
  |(s',l) :: r=>by
    unfold addS;by_cases h:s0=s'
    . rw [zAc h];subst h;unfold zr4;by_cases h2:s=s0
      . subst h2;simp
      . simp [Ne.symm h2,h2]
    . rw [zAd h];have ih:=ycd s0 i s r;unfold zr4 at ih ⊢;by_cases h2:s'=s
      . subst h2;rw [zAd (fun q=>h q.symm)];simp
      . simp only [List.find?_cons,zAb h2];exact ih
theorem zyh:∀ {a:List (Spot×List Int)},(a.map (·.1)).Nodup->a=(a.map (·.1)).map fun s=>(s,zr4 a s)
  |[],_=>rfl
  |(s,l) :: r,h=>by
    rw [ge,List.nodup_cons] at h;rw [ge,ge];have e1:zr4 ((s,l) :: r) s=l:=by unfold zr4;simp
    rw [e1];congr 1;have ih:=zyh h.2
    conv=>lhs;rw [ih]
    apply pz;intro x hx;have hne:s≠x:=fun q=>h.1 (by rw [q];exact hx);have:zr4 ((s,l) :: r) x=zr4 r x:=by unfold zr4;simp [hne]
    rw [this]
theorem z8o:∀ (l:List Rule) (i:Int) (a:List (Spot×List Int)),(a.map (·.1)).Nodup->coll l i a=(zks l (a.map (·.1))).map fun s=>(s,zr4 a s++idxF (qs s) l i)
  |[],i,a,h=>by
    rw [coll,zks];simp only [idxF,fp];exact zyh h
  |r :: l,i,a,h=>by
    rw [coll,zks]
    cases he:exB r with
    |false =>
      rw [zAd (by simp),zAd (by simp),z8o l (i+1) a h];apply pz;intro s _;rw [idxF,zAd (by unfold qs;rw [he];simp)]
    |true =>
      rw [zAc rfl];have hk:=zxl (zdi r) i a
      have hn:((addS (zdi r) i a).map (·.1)).Nodup:=by
        rw [hk];split
        . exact h
        . rename_i hn;rw [List.nodup_append];exact ⟨h,by simp,fun x hx y hy hxy=>hn (by simp at hy;rw [<- hy,<- hxy];exact hx)⟩
      rw [z8o l (i+1) _ hn,hk]
      have e:(if zdi r∈a.map (·.1) then a.map (·.1) else a.map (·.1)++[zdi r])=(if true=true/\zdi r ∉ a.map (·.1) then a.map (·.1)++[zdi r] else a.map (·.1)):=by
        by_cases q:zdi r∈a.map (·.1)
        . rw [zAc q,zAd (fun h=>h.2 q)]
        . rw [zAd q,zAc ⟨rfl,q⟩]
      rw [e];apply pz;intro s _;rw [ycd,idxF];by_cases q:s=zdi r
      . rw [zAc q,zAc (by unfold qs;rw [he,zAa q.symm];rfl),ey];rfl
      . rw [zAd q,zAd (by unfold qs;rw [zAb (fun h=>q h.symm)];simp)]
def zlv (t:List Rule) (s:Spot):Bool:=t.any fun r=>!exB r && zkf r.mat (spP s)
def z2v (t:List Rule) (s:Spot):Option ze2:=if zlv t s=true then none else some ⟨s.port,s.tag,idxF (qs s) t 0⟩
def zxe (t:List Rule):List ze2:=(zks t []).filterMap (z2v t)
theorem zou:∀ (l:List Rule) (K:List Spot) (s:Spot),s∈zks l K↔s∈K\/∃ r,r∈l/\exB r=true/\zdi r=s
  |[],K,s=>by simp [zks]
  |r :: l,K,s=>by
    rw [zks,zou l];by_cases h:exB r=true/\zdi r ∉ K
    . rw [zAc h];constructor
      . rintro (q|⟨x,hx,q⟩)
        . rcases List.mem_append.1 q with q|q
          . exact .inl q
          . simp at q;exact .inr ⟨r,.head _,h.1,q.symm⟩
        . exact .inr ⟨x,.tail _ hx,q⟩
      . rintro (q|⟨x,hx,q⟩)
        . exact .inl (List.mem_append_left _ q)
        . rcases ic.1 hx with rfl|hx
          . exact .inl (List.mem_append_right _ (by simp [q.2]))
          . exact .inr ⟨x,hx,q⟩
    . rw [zAd h];constructor
      . rintro (q|⟨x,hx,q⟩)
        . exact .inl q
        . exact .inr ⟨x,.tail _ hx,q⟩
      . rintro (q|⟨x,hx,q⟩)
        . exact .inl q
        . rcases ic.1 hx with rfl|hx
          . refine .inl ?_;by_cases hm:zdi x∈K
            . rw [<- q.2];exact hm
            . exact absurd ⟨q.1,hm⟩ h
          . exact .inr ⟨x,hx,q⟩
theorem zqc {k:Nat} (l:List Rule) (f:Rule->Option Bool) (q:Rule->Bool) (hf:∀ x,x∈l->f x=some (q x)) (hl:l.length<big) (hk:l.length<k):zcx k l f=some (idxB q l):=by
  unfold zcx;exact zju l q hl (fun m j h=>by rw [zbd,zAc (zae h),zAc ⟨by omega,zae h⟩,zca h,hf _ (ft h),dz]) (fun m=>by rw [zbd,zAd (by omega)]) hk
theorem zm6 {k:Nat} (l:List Rule) (f:Rule->Option Bool) (q:Rule->Bool) (hf:∀ x,x∈l->f x=some (q x)) (hl:l.length<big) (hk:l.length<k):zbr k l f=some (l.any q):=by
  unfold zbr;rw [zqc l f q hf hl hk,dz,zt7]
theorem ycq {r:Rule} (h:zak r.mat=true):zbf (zdi r).port=true/\zbf (zdi r).tag=true:=by
  obtain ⟨_,pb,_⟩:=za5.1 h;unfold zag at pb;rw [fd] at pb
  have key:∀ j:Nat,j<10->zbf (gx r.mat.bits.l (j:Int))=true:=fun j hj=>by
    rw [gxA _ hj];exact pb _ (ft _)
  exact ⟨key 0 (by omega),key 9 (by omega)⟩
theorem yah {k:Nat} {r:Rule} {s:Spot} (hr:zak r.mat=true) (hp:zbf s.port=true) (ht:zbf s.tag=true) (hk:big<=k):zev k s r=some (zkf r.mat (spP s)):=by
  unfold zev zbi;rw [dz];show Option.bind (zfk k r.mat (spP s)) _=_;rw [z6k hr (zhx hp ht) (by simp only [big] at hk;omega),dz]
theorem yk7 {k:Nat} {t:List Rule} {s:Spot} (hr:∀ r,r∈t->zak r.mat=true) (hl:t.length<big) (hp:zbf s.port=true) (ht:zbf s.tag=true) (hk:big<=k):zbr k t (fun x=>zft k x s)=some (zlv t s):=by
  refine zm6 t _ _ (fun r hm=>?_) hl (fh hl hk);unfold zft;rw [ybd,dz]
  cases he:exB r with
  |true=>rfl
  |false =>
    rw [zAd (by simp),yah (hr r hm) hp ht hk,dz];rfl
theorem yc9 {t:List Rule} (hr:∀ r,r∈t->zak r.mat=true) {s:Spot} (hs:s∈zks t []):zbf s.port=true/\zbf s.tag=true:=by
  rcases (zou t [] s).1 hs with h|⟨r,hm,_,rfl⟩
  . simp at h
  . exact ycq (hr r hm)
theorem z8e {k:Nat} {t:List Rule} (hr:∀ r,r∈t->zak r.mat=true) (hl:t.length<1000000) (hk:big<=k):zir k t=some (zxe t):=by
  have hlb:t.length<big:=by simp only [big];omega
  unfold zir zxe;rw [zAc hl,z8o t 0 [] List.nodup_nil];have hK:=fun s (h:s∈zks t [])=>yc9 hr h;rw [List.map_nil];generalize zks t []=K at hK
  induction K with
  |nil=>rfl
  |cons s K ih =>
    obtain ⟨h1,h2⟩:=hK s (.head _);rw [ge,ygj,yk7 hr hlb h1 h2 hk,dz,ih fun x hx=>hK x (.tail _ hx),dz,List.filterMap_cons];unfold z2v
    cases zlv t s with
    |true=>rfl
    |false=>rfl
theorem yfz (k:Nat) (r:Rule):zla k r=some (exB r):=by
  unfold zla exB;rw [zAc (by omega)];by_cases h:gx r.mat.mask.l 0=65535
  . rw [zAc h,zAc (by omega),zAa h,Bool.true_and]
  . rw [zAd h,zAb h,ng]
theorem zvl (k:Nat) (p t:Int):zmc k p t=some (spP ⟨p,t⟩):=by
  unfold zmc;rw [zAc (by omega),zAc (by omega)];rfl
theorem z33 {k:Nat} {t:List Rule} {s:Spot} (hr:∀ r,r∈t->zak r.mat=true) (hl:t.length<1000000) (hp:zbf s.port=true) (ht:zbf s.tag=true) (hk:big<=k):zhh k t s.port s.tag=some (if zlv t s=true then [] else idxF (qs s) t 0):=by
  have key:∀ (m j:Nat),j<=t.length->t.length - j<m->zdm k t s.port s.tag m (j:Int) (idxF (qs s) (t.take j) 0) (idxF (qs s) (t.take j) 0).length=some (if ((t.drop j).any fun r=>!exB r && zkf r.mat (spP s))=true then .inl [] else .inr (idxF (qs s) t 0,(idxF (qs s) t 0).length)):=by
    intro m
    induction m with
    |zero=>intro j h1 h2;omega
    |succ m ih =>
      intro j h1 h2;rw [zdm];rcases Nat.lt_or_ge j t.length with h|h
      . have hm:t[j]∈t:=ft h;have hx:=hr _ hm;rw [zAc (zae h),zAc ⟨by omega,zae h⟩,zca h,zvl,dz];show Option.bind (ze8 k t[j].mat (spP s)) _=_;rw [zvm hx (zhx hp ht) (by simp only [big] at hk;omega),dz,yfz,dz,List.drop_eq_getElem_cons h,List.any_cons,zcu j (by omega)];have ih2:=ih (j+1) (by omega) (by omega);rw [<- List.take_append_getElem h,z40,gi,Nat.min_eq_left h1] at ih2;have hle:=z17 (qs s) (t.take j) 0;rw [gi] at hle
        cases ho:zkf t[j].mat (spP s) with
        |false =>
          have hq:qs s t[j]=false:=by
            unfold qs
            cases he:exB t[j] with
            |false=>rfl
            |true=>rw [<- zoq hx hp ht he,ho];rfl
          rw [hq] at ih2;simp only [Bool.false_eq_true,if_false,fp] at ih2;rw [zAd (by simp),Bool.and_false,ib];exact ih2
        |true =>
          rw [zAc rfl,Bool.and_true]
          cases he:exB t[j] with
          |false=>rfl
          |true =>
            have hq:qs s t[j]=true:=by
              unfold qs;rw [<- zoq hx hp ht he,ho,he];rfl
            rw [hq] at ih2;simp only [if_true,Int.zero_add,eu,gz] at ih2;rw [zAc rfl,zAc (by omega)];exact ih2
      . obtain rfl:j=t.length:=by omega
        rw [zAd (by omega),List.drop_length,List.take_length];rfl
  have:=key k 0 (gb _) (by simp only [big] at hk;omega);rw [List.take_zero,fl] at this;unfold zhh;have e:(zdm k t s.port s.tag k 0 [] 0:Option ((List Int) ⊕ (List Int×Nat)))=_:=this;rw [e,dz];show i9 _ _ (if zlv t s=true then _ else _)=_
  cases zlv t s with
  |true=>rfl
  |false =>
    show (if (idxF (qs s) t 0).length=(idxF (qs s) t 0).length then some (idxF (qs s) t 0) else none)=_;rw [zAc rfl];rfl
theorem zt6 {q:Rule->Bool}:∀ {l:List Rule} {i:Int},idxF q l i=[]↔∀ r,r∈l->q r=false
  |[],i=>by simp [idxF]
  |x :: l,i=>by
    rw [idxF]
    cases hq:q x with
    |true =>
      rw [zAc rfl];constructor
      . intro h;cases h
      . intro h;have:=h x (.head _);rw [hq] at this;cases this
    |false =>
      rw [zAd (by simp),zt6];constructor
      . intro h r hr;rcases ic.1 hr with rfl|hr
        . exact hq
        . exact h r hr
      . intro h r hr;exact h r (.tail _ hr)
theorem yda:∀ (l:List Rule) (K:List Spot),(zks l K).length<=K.length+l.length:=by
  intro l
  induction l with
  |nil=>intro K;exact Nat.le_refl _
  |cons x l ih =>
    intro K;rw [zks,ez];by_cases c:exB x=true/\zdi x ∉ K
    . have:=ih (K++[zdi x]);rw [zAc c];rw [eu,gz] at this;omega
    . have:=ih K;rw [zAd c];omega
set_option maxHeartbeats 4000000 in
theorem zxw (ax:Axs) (hx:NoAx ax) (l:List Alt) (hl:l.length*169<=1000000000):Call Tryz.prog (EE ax) [] 63 [lAlt l] ts0 (.arr 0 21 0 l.length l.length (l.length*21)) (stL [.cells false (l.length*21) (vecC eAlt l)]):=by
  refine sl (fn:=Tryz.f63) 8 (hx.no _ (by decide)) (fn63 ax) rfl Tryz.ntmps63 (by decide) (by simp) (gb _) (by rfl) ?_;simp only [zkb,zmv,ed]
  cases l with
  |nil =>
    refine TW.lst0 0 21 (by omega) (by rfl) ?_ ?_
    . rw [zk7];apply d6;apply ji (zbq ax) [] []
      . kernel_rfl
      . simp (disch:=first|omega|decide | (simp only [lzA,ed,fm];done)|fail) only [b0,b1,b2,b3,b4,b5,b6,b7,b8,ed,ee,fy,reduceIte,reduceCtorEq,eqA,eqB,eqsA,eqsB,zus ax,zw5,z1g,tNil,tBin,zal,zab,apA,tSrc,zaj,za1,zbg,zc9,zbb,ew,fg,zby,za3,zbx,zb1,za4,zb0,iq,im,ib,iy];with_reducible rfl
      . exact trivial
      simp only [onT,onTB];repeat apply d6
      apply ji (zbq ax) [] []
      . kernel_rfl
      . simp (disch:=first|omega|decide | (simp only [lzA,ed,fm];done)|fail) only [b0,b1,b2,b3,b4,b5,b6,b7,b8,ed,ee,fy,reduceIte,reduceCtorEq,eqA,eqB,eqsA,eqsB,zus ax,zw5,z1g,tNil,tBin,zal,zab,apA,tSrc,zaj,za1,zbg,zc9,zbb,ew,fg,zby,za3,zbx,zb1,za4,zb0,iq,im,ib,iy];with_reducible rfl
      . exact trivial
      simp only [onT,onTB];refine qn (b:=true) ?_ ?_
      . simp only [zj9,zfo,zg7,za8,ee,reduceIte,el]
      simp only [cond_true,cond_false];apply d6;apply ji (zbq ax) [] []
      . kernel_rfl
      . simp (disch:=first|omega|decide | (simp only [lzA,ed,fm];done)|fail) only [b0,b1,b2,b3,b4,b5,b6,b7,b8,ed,ee,fy,reduceIte,reduceCtorEq,eqA,eqB,eqsA,eqsB,zus ax,zw5,z1g,tNil,tBin,zal,zab,apA,tSrc,zaj,za1,zbg,zc9,zbb,ew,fg,zby,za3,zbx,zb1,za4,zb0,iq,im,ib,iy];with_reducible rfl
      . exact trivial
      simp only [onT,onTB];refine TW.vec 2 21 (by first|rfl | (simp only [za8,ee,reduceIte];done)) ?_;rw [zyr];simp only [scB,ed];apply rj;exact ⟨.inr rfl,_,rfl,_,pr _ _,qo (by simp only [zb2,idsA,idsB,idsC,el])⟩
    . rw [zk7];apply d6;apply ji (zbq ax) [] []
      . kernel_rfl
      . simp (disch:=first|omega|decide | (simp only [lzA,ed,fm];done)|fail) only [b0,b1,b2,b3,b4,b5,b6,b7,b8,ed,ee,fy,reduceIte,reduceCtorEq,eqA,eqB,eqsA,eqsB,zus ax,zw5,z1g,tNil,tBin,zal,zab,apA,tSrc,zaj,za1,zbg,zc9,zbb,ew,fg,zby,za3,zbx,zb1,za4,zb0,iq,im,ib,iy];with_reducible rfl
      . exact trivial
      simp only [onT,onTB];repeat apply d6
      apply ji (zbq ax) [] []
      . kernel_rfl
      . simp (disch:=first|omega|decide | (simp only [lzA,ed,fm];done)|fail) only [b0,b1,b2,b3,b4,b5,b6,b7,b8,ed,ee,fy,reduceIte,reduceCtorEq,eqA,eqB,eqsA,eqsB,zus ax,zw5,z1g,tNil,tBin,zal,zab,apA,tSrc,zaj,za1,zbg,zc9,zbb,ew,fg,zby,za3,zbx,zb1,za4,zb0,iq,im,ib,iy];with_reducible rfl
      . exact trivial
      simp only [onT,onTB];refine qn (b:=false) ?_ ?_
      . simp only [zj9,zfo,zg7,za8,ee,reduceIte,ng,el]
      simp only [cond_true,cond_false];apply rz;simp only [onT,onTB];apply d6;apply ji (zbq ax) [5] []
      . kernel_rfl
      . simp (disch:=first|omega|decide | (simp only [lzA,ed,fm];done)|fail) only [b0,b1,b2,b3,b4,b5,b6,b7,b8,ed,ee,fy,reduceIte,reduceCtorEq,eqA,eqB,eqsA,eqsB,zus ax,zw5,z1g,tNil,tBin,zal,zab,apA,tSrc,zaj,za1,zbg,zc9,zbb,ew,fg,zby,za3,zbx,zb1,za4,zb0,iq,im,ib,iy];with_reducible rfl
      . exact trivial
      simp only [onT,onTB];refine TW.unz 0 (by rfl) ?_;rw [zhs _ _ _ (by simp only [lzA]<;>omega)];simp only [scA];apply rj;exact ⟨.inr rfl,_,rfl,_,pr _ _,qo (by simp only [zb2,idsA,idsB,idsC,el])⟩
  |cons x r =>
    have hn:∀ S:TS,tNil S (.slice 123) (si 21 ((x :: r).map eAlt))=some false:=fun _=>rfl;have hn0:∀ S:TS,tNil S (.slice 123) .nils=some true:=fun _=>rfl;have hb0:Nat.ble (x :: r).length 0=false:=rfl;have hb1:Nat.blt 0 (x :: r).length=true:=rfl;generalize x :: r=L at hl hn hb0 hb1 ⊢;rw [zk7];apply d6;apply ji (zbq ax) [] []
    . kernel_rfl
    . simp (disch:=first|omega|decide | (simp only [lzA,ed,fm];done)|fail) only [b0,b1,b2,b3,b4,b5,b6,b7,b8,ed,ee,fy,reduceIte,reduceCtorEq,eqA,eqB,eqsA,eqsB,zus ax,zw5,z1g,tBin,zal,zab,apA,tSrc,zaj,za1,zbg,zc9,zbb,ew,fg,zby,za3,zbx,zb1,za4,zb0,iq,im,ib,iy,zo3 eAlt L,zjd (f:=eAlt) (e:=21) (fun x=>zc6 x) L,zl8 (f:=eAlt) (fun x=>z1z x) L,hn,hn0,hb0,hb1,cond_true,cond_false];with_reducible rfl
    . exact trivial
    simp only [onT,onTB];repeat apply d6
    apply ji (zbq ax) [] []
    . kernel_rfl
    . simp (disch:=first|omega|decide | (simp only [lzA,ed,fm];done)|fail) only [b0,b1,b2,b3,b4,b5,b6,b7,b8,ed,ee,fy,reduceIte,reduceCtorEq,eqA,eqB,eqsA,eqsB,zus ax,zw5,z1g,tBin,zal,zab,apA,tSrc,zaj,za1,zbg,zc9,zbb,ew,fg,zby,za3,zbx,zb1,za4,zb0,iq,im,ib,iy,zo3 eAlt L,zjd (f:=eAlt) (e:=21) (fun x=>zc6 x) L,zl8 (f:=eAlt) (fun x=>z1z x) L,hn,hn0,hb0,hb1,cond_true,cond_false];with_reducible rfl
    . exact trivial
    simp only [onT,onTB];refine qn (b:=false) ?_ ?_
    . simp only [zj9,zfo,zg7,za8,ee,reduceIte,ng,el]
    simp only [cond_true,cond_false];apply rz;simp only [onT,onTB];apply d6;apply ji (zbq ax) [5] []
    . kernel_rfl
    . simp (disch:=first|omega|decide | (simp only [lzA,ed,fm];done)|fail) only [b0,b1,b2,b3,b4,b5,b6,b7,b8,ed,ee,fy,reduceIte,reduceCtorEq,eqA,eqB,eqsA,eqsB,zus ax,zw5,z1g,tBin,zal,zab,apA,tSrc,zaj,za1,zbg,zc9,zbb,ew,fg,zby,za3,zbx,zb1,za4,zb0,iq,im,ib,iy,zo3 eAlt L,zjd (f:=eAlt) (e:=21) (fun x=>zc6 x) L,zl8 (f:=eAlt) (fun x=>z1z x) L,hn,hn0,hb0,hb1,cond_true,cond_false];with_reducible rfl
    . exact trivial
    simp only [onT,onTB];apply rj;exact ⟨.inr rfl,_,rfl,_,pr _ _,qo (by simp only [zb2,idsA,idsB,idsC,el])⟩
set_option maxHeartbeats 4000000 in
theorem zxx (ax:Axs) (hx:NoAx ax) (l:List Rule) (hl:l.length*201<=1000000000):Call Tryz.prog (EE ax) [] 65 [zas l] ts0 (.arr 0 23 0 l.length l.length (l.length*23)) (stL [.cells false (l.length*23) (vecC zao l)]):=by
  refine sl (fn:=Tryz.f65) 8 (hx.no _ (by decide)) (fn65 ax) rfl Tryz.ntmps65 (by decide) (by simp) (gb _) (by rfl) ?_;simp only [zkb,zmv,ed]
  cases l with
  |nil =>
    refine TW.lst0 0 23 (by omega) (by rfl) ?_ ?_
    . rw [zk7];apply d6;apply ji (zbq ax) [] []
      . kernel_rfl
      . simp (disch:=first|omega|decide | (simp only [lzA,ed,fm];done)|fail) only [b0,b1,b2,b3,b4,b5,b6,b7,b8,ed,ee,fy,reduceIte,reduceCtorEq,eqA,eqB,eqsA,eqsB,ti41 ax,el41,sr41,tNil,tBin,zal,zab,apA,tSrc,zaj,za1,zbg,zc9,zbb,ew,fg,zby,za3,zbx,zb1,za4,zb0,iq,im,ib,iy];with_reducible rfl
      . exact trivial
      simp only [onT,onTB];repeat apply d6
      apply ji (zbq ax) [] []
      . kernel_rfl
      . simp (disch:=first|omega|decide | (simp only [lzA,ed,fm];done)|fail) only [b0,b1,b2,b3,b4,b5,b6,b7,b8,ed,ee,fy,reduceIte,reduceCtorEq,eqA,eqB,eqsA,eqsB,ti41 ax,el41,sr41,tNil,tBin,zal,zab,apA,tSrc,zaj,za1,zbg,zc9,zbb,ew,fg,zby,za3,zbx,zb1,za4,zb0,iq,im,ib,iy];with_reducible rfl
      . exact trivial
      simp only [onT,onTB];refine qn (b:=true) ?_ ?_
      . simp only [zj9,zfo,zg7,za8,ee,reduceIte,el]
      simp only [cond_true,cond_false];apply d6;apply ji (zbq ax) [] []
      . kernel_rfl
      . simp (disch:=first|omega|decide | (simp only [lzA,ed,fm];done)|fail) only [b0,b1,b2,b3,b4,b5,b6,b7,b8,ed,ee,fy,reduceIte,reduceCtorEq,eqA,eqB,eqsA,eqsB,ti41 ax,el41,sr41,tNil,tBin,zal,zab,apA,tSrc,zaj,za1,zbg,zc9,zbb,ew,fg,zby,za3,zbx,zb1,za4,zb0,iq,im,ib,iy];with_reducible rfl
      . exact trivial
      simp only [onT,onTB];refine TW.vec 2 23 (by first|rfl | (simp only [za8,ee,reduceIte];done)) ?_;rw [zyr];simp only [scB,ed];apply rj;exact ⟨.inr rfl,_,rfl,_,pr _ _,qo (by simp only [zb2,idsA,idsB,idsC,el])⟩
    . rw [zk7];apply d6;apply ji (zbq ax) [] []
      . kernel_rfl
      . simp (disch:=first|omega|decide | (simp only [lzA,ed,fm];done)|fail) only [b0,b1,b2,b3,b4,b5,b6,b7,b8,ed,ee,fy,reduceIte,reduceCtorEq,eqA,eqB,eqsA,eqsB,ti41 ax,el41,sr41,tNil,tBin,zal,zab,apA,tSrc,zaj,za1,zbg,zc9,zbb,ew,fg,zby,za3,zbx,zb1,za4,zb0,iq,im,ib,iy];with_reducible rfl
      . exact trivial
      simp only [onT,onTB];repeat apply d6
      apply ji (zbq ax) [] []
      . kernel_rfl
      . simp (disch:=first|omega|decide | (simp only [lzA,ed,fm];done)|fail) only [b0,b1,b2,b3,b4,b5,b6,b7,b8,ed,ee,fy,reduceIte,reduceCtorEq,eqA,eqB,eqsA,eqsB,ti41 ax,el41,sr41,tNil,tBin,zal,zab,apA,tSrc,zaj,za1,zbg,zc9,zbb,ew,fg,zby,za3,zbx,zb1,za4,zb0,iq,im,ib,iy];with_reducible rfl
      . exact trivial
      simp only [onT,onTB];refine qn (b:=false) ?_ ?_
      . simp only [zj9,zfo,zg7,za8,ee,reduceIte,ng,el]
      simp only [cond_true,cond_false];apply rz;simp only [onT,onTB];apply d6;apply ji (zbq ax) [5] []
      . kernel_rfl
      . simp (disch:=first|omega|decide | (simp only [lzA,ed,fm];done)|fail) only [b0,b1,b2,b3,b4,b5,b6,b7,b8,ed,ee,fy,reduceIte,reduceCtorEq,eqA,eqB,eqsA,eqsB,ti41 ax,el41,sr41,tNil,tBin,zal,zab,apA,tSrc,zaj,za1,zbg,zc9,zbb,ew,fg,zby,za3,zbx,zb1,za4,zb0,iq,im,ib,iy];with_reducible rfl
      . exact trivial
      simp only [onT,onTB];refine TW.unz 0 (by rfl) ?_;rw [zhs _ _ _ (by simp only [lzA]<;>omega)];simp only [scA];apply rj;exact ⟨.inr rfl,_,rfl,_,pr _ _,qo (by simp only [zb2,idsA,idsB,idsC,el])⟩
  |cons x r =>
    have hn:∀ S:TS,tNil S (.slice 104) (si 23 ((x :: r).map zao))=some false:=fun _=>rfl;have hn0:∀ S:TS,tNil S (.slice 104) .nils=some true:=fun _=>rfl;have hb0:Nat.ble (x :: r).length 0=false:=rfl;have hb1:Nat.blt 0 (x :: r).length=true:=rfl;generalize x :: r=L at hl hn hb0 hb1 ⊢;rw [zk7];apply d6;apply ji (zbq ax) [] []
    . kernel_rfl
    . simp (disch:=first|omega|decide | (simp only [lzA,ed,fm];done)|fail) only [b0,b1,b2,b3,b4,b5,b6,b7,b8,ed,ee,fy,reduceIte,reduceCtorEq,eqA,eqB,eqsA,eqsB,ti41 ax,el41,sr41,tBin,zal,zab,apA,tSrc,zaj,za1,zbg,zc9,zbb,ew,fg,zby,za3,zbx,zb1,za4,zb0,iq,im,ib,iy,zo3 zao L,zjd (f:=zao) (e:=23) (fun x=>zch x) L,zl8 (f:=zao) (fun x=>zvy x) L,hn,hn0,hb0,hb1,cond_true,cond_false];with_reducible rfl
    . exact trivial
    simp only [onT,onTB];repeat apply d6
    apply ji (zbq ax) [] []
    . kernel_rfl
    . simp (disch:=first|omega|decide | (simp only [lzA,ed,fm];done)|fail) only [b0,b1,b2,b3,b4,b5,b6,b7,b8,ed,ee,fy,reduceIte,reduceCtorEq,eqA,eqB,eqsA,eqsB,ti41 ax,el41,sr41,tBin,zal,zab,apA,tSrc,zaj,za1,zbg,zc9,zbb,ew,fg,zby,za3,zbx,zb1,za4,zb0,iq,im,ib,iy,zo3 zao L,zjd (f:=zao) (e:=23) (fun x=>zch x) L,zl8 (f:=zao) (fun x=>zvy x) L,hn,hn0,hb0,hb1,cond_true,cond_false];with_reducible rfl
    . exact trivial
    simp only [onT,onTB];refine qn (b:=false) ?_ ?_
    . simp only [zj9,zfo,zg7,za8,ee,reduceIte,ng,el]
    simp only [cond_true,cond_false];apply rz;simp only [onT,onTB];apply d6;apply ji (zbq ax) [5] []
    . kernel_rfl
    . simp (disch:=first|omega|decide | (simp only [lzA,ed,fm];done)|fail) only [b0,b1,b2,b3,b4,b5,b6,b7,b8,ed,ee,fy,reduceIte,reduceCtorEq,eqA,eqB,eqsA,eqsB,ti41 ax,el41,sr41,tBin,zal,zab,apA,tSrc,zaj,za1,zbg,zc9,zbb,ew,fg,zby,za3,zbx,zb1,za4,zb0,iq,im,ib,iy,zo3 zao L,zjd (f:=zao) (e:=23) (fun x=>zch x) L,zl8 (f:=zao) (fun x=>zvy x) L,hn,hn0,hb0,hb1,cond_true,cond_false];with_reducible rfl
    . exact trivial
    simp only [onT,onTB];apply rj;exact ⟨.inr rfl,_,rfl,_,pr _ _,qo (by simp only [zb2,idsA,idsB,idsC,el])⟩
theorem z2p (l:List (List Rule)):(l.map zas).flatMap T.cells=l.map zas:=zgb fun _=>rfl
theorem z2y (l:List (List Rule)):(l.map zas).all T.one=true:=by
  rw [fd];intro x hx;obtain ⟨y,_,rfl⟩:=ip.1 hx;rfl
set_option maxHeartbeats 4000000 in
theorem z1o (ax:Axs) (hx:NoAx ax) (l:List (List Rule)) (hl:l.length*25<=1000000000):Call Tryz.prog (EE ax) [] 66 [zau l] ts0 (.arr 0 1 0 l.length l.length l.length) (stL [.cells false l.length (l.map zas)]):=by
  refine sl (fn:=Tryz.f66) 8 (hx.no _ (by decide)) (fn66 ax) rfl Tryz.ntmps66 (by decide) (by simp) (gb _) (by rfl) ?_;simp only [zkb,zmv,ed]
  cases l with
  |nil =>
    refine TW.lst0 0 1 (by omega) (by rfl) ?_ ?_
    . rw [zk7];apply d6;apply ji (zbq ax) [] []
      . kernel_rfl
      . simp (disch:=first|omega|decide | (simp only [lzA,ed,fm];done)|fail) only [b0,b1,b2,b3,b4,b5,b6,b7,b8,ed,ee,fy,reduceIte,reduceCtorEq,eqA,eqB,eqsA,eqsB,ti27 ax,el27,sr27,tNil,tBin,zal,zab,apA,tSrc,zaj,za1,zbg,zc9,zbb,ew,fg,zby,za3,zbx,zb1,za4,zb0,z2p,z2y,iq,im,ib,iy];with_reducible rfl
      . exact trivial
      simp only [onT,onTB];repeat apply d6
      apply ji (zbq ax) [] []
      . kernel_rfl
      . simp (disch:=first|omega|decide | (simp only [lzA,ed,fm];done)|fail) only [b0,b1,b2,b3,b4,b5,b6,b7,b8,ed,ee,fy,reduceIte,reduceCtorEq,eqA,eqB,eqsA,eqsB,ti27 ax,el27,sr27,tNil,tBin,zal,zab,apA,tSrc,zaj,za1,zbg,zc9,zbb,ew,fg,zby,za3,zbx,zb1,za4,zb0,z2p,z2y,iq,im,ib,iy];with_reducible rfl
      . exact trivial
      simp only [onT,onTB];refine qn (b:=true) ?_ ?_
      . simp only [zj9,zfo,zg7,za8,ee,reduceIte,el]
      simp only [cond_true,cond_false];apply d6;apply ji (zbq ax) [] []
      . kernel_rfl
      . simp (disch:=first|omega|decide | (simp only [lzA,ed,fm];done)|fail) only [b0,b1,b2,b3,b4,b5,b6,b7,b8,ed,ee,fy,reduceIte,reduceCtorEq,eqA,eqB,eqsA,eqsB,ti27 ax,el27,sr27,tNil,tBin,zal,zab,apA,tSrc,zaj,za1,zbg,zc9,zbb,ew,fg,zby,za3,zbx,zb1,za4,zb0,z2p,z2y,iq,im,ib,iy];with_reducible rfl
      . exact trivial
      simp only [onT,onTB];refine TW.vec 2 1 (by first|rfl | (simp only [za8,ee,reduceIte];done)) ?_;rw [zyr];simp only [scB,ed];apply rj;exact ⟨.inr rfl,_,rfl,_,pr _ _,qo (by simp only [zb2,idsA,idsB,idsC,el])⟩
    . rw [zk7];apply d6;apply ji (zbq ax) [] []
      . kernel_rfl
      . simp (disch:=first|omega|decide | (simp only [lzA,ed,fm];done)|fail) only [b0,b1,b2,b3,b4,b5,b6,b7,b8,ed,ee,fy,reduceIte,reduceCtorEq,eqA,eqB,eqsA,eqsB,ti27 ax,el27,sr27,tNil,tBin,zal,zab,apA,tSrc,zaj,za1,zbg,zc9,zbb,ew,fg,zby,za3,zbx,zb1,za4,zb0,z2p,z2y,iq,im,ib,iy];with_reducible rfl
      . exact trivial
      simp only [onT,onTB];repeat apply d6
      apply ji (zbq ax) [] []
      . kernel_rfl
      . simp (disch:=first|omega|decide | (simp only [lzA,ed,fm];done)|fail) only [b0,b1,b2,b3,b4,b5,b6,b7,b8,ed,ee,fy,reduceIte,reduceCtorEq,eqA,eqB,eqsA,eqsB,ti27 ax,el27,sr27,tNil,tBin,zal,zab,apA,tSrc,zaj,za1,zbg,zc9,zbb,ew,fg,zby,za3,zbx,zb1,za4,zb0,z2p,z2y,iq,im,ib,iy];with_reducible rfl
      . exact trivial
      simp only [onT,onTB];refine qn (b:=false) ?_ ?_
      . simp only [zj9,zfo,zg7,za8,ee,reduceIte,ng,el]
      simp only [cond_true,cond_false];apply rz;simp only [onT,onTB];apply d6;apply ji (zbq ax) [5] []
      . kernel_rfl
      . simp (disch:=first|omega|decide | (simp only [lzA,ed,fm];done)|fail) only [b0,b1,b2,b3,b4,b5,b6,b7,b8,ed,ee,fy,reduceIte,reduceCtorEq,eqA,eqB,eqsA,eqsB,ti27 ax,el27,sr27,tNil,tBin,zal,zab,apA,tSrc,zaj,za1,zbg,zc9,zbb,ew,fg,zby,za3,zbx,zb1,za4,zb0,z2p,z2y,iq,im,ib,iy];with_reducible rfl
      . exact trivial
      simp only [onT,onTB];refine TW.unz 0 (by rfl) ?_;rw [zhs _ _ _ (by simp only [lzA]<;>omega)];simp only [scA];apply rj;exact ⟨.inr rfl,_,rfl,_,pr _ _,qo (by simp only [zb2,idsA,idsB,idsC,el])⟩
  |cons x r =>
    rw [zk7];simp only [ez] at hl;apply d6;apply ji (zbq ax) [] []
    . kernel_rfl
    . simp (disch:=first|omega|decide | (simp only [lzA,ed,fm];done)|fail) only [b0,b1,b2,b3,b4,b5,b6,b7,b8,ed,ee,fy,reduceIte,reduceCtorEq,eqA,eqB,eqsA,eqsB,ti27 ax,el27,sr27,tNil,tBin,zal,zab,apA,tSrc,zaj,za1,zbg,zc9,zbb,ew,fg,zby,za3,zbx,zb1,za4,zb0,z2p,z2y,iq,im,ib,iy];with_reducible rfl
    . exact trivial
    simp only [onT,onTB];repeat apply d6
    apply ji (zbq ax) [] []
    . kernel_rfl
    . simp (disch:=first|omega|decide | (simp only [lzA,ed,fm];done)|fail) only [b0,b1,b2,b3,b4,b5,b6,b7,b8,ed,ee,fy,reduceIte,reduceCtorEq,eqA,eqB,eqsA,eqsB,ti27 ax,el27,sr27,tNil,tBin,zal,zab,apA,tSrc,zaj,za1,zbg,zc9,zbb,ew,fg,zby,za3,zbx,zb1,za4,zb0,z2p,z2y,iq,im,ib,iy];with_reducible rfl
    . exact trivial
    simp only [onT,onTB];refine qn (b:=false) ?_ ?_
    . simp only [zj9,zfo,zg7,za8,ee,reduceIte,ng,el]
    simp only [cond_true,cond_false];apply rz;simp only [onT,onTB];apply d6;apply ji (zbq ax) [5] []
    . kernel_rfl
    . simp (disch:=first|omega|decide | (simp only [lzA,ed,fm];done)|fail) only [b0,b1,b2,b3,b4,b5,b6,b7,b8,ed,ee,fy,reduceIte,reduceCtorEq,eqA,eqB,eqsA,eqsB,ti27 ax,el27,sr27,tNil,tBin,zal,zab,apA,tSrc,zaj,za1,zbg,zc9,zbb,ew,fg,zby,za3,zbx,zb1,za4,zb0,z2p,z2y,iq,im,ib,iy];with_reducible rfl
    . exact trivial
    simp only [onT,onTB];apply rj;exact ⟨.inr rfl,_,rfl,_,pr _ _,qo (by simp only [zb2,idsA,idsB,idsC,el])⟩
theorem yg4 (r:Alt) (m:Pat):spl (eAlt r).cells 1 (m.mask.l.map (d7 .i64)++(m.bits.l.map (d7 .i64)))=(eAlt { r with mod:=m }).cells:=by
  have e1:(eAlt r).cells=d7 .i64 r.link :: (r.mod.mask.l.map (d7 .i64)++(r.mod.bits.l.map (d7 .i64))):=rfl;have e2:(eAlt { r with mod:=m }).cells=d7 .i64 r.link :: (m.mask.l.map (d7 .i64)++(m.bits.l.map (d7 .i64))):=rfl;rw [e1,e2];have h1:(m.mask.l.map (d7 .i64)++m.bits.l.map (d7 .i64)).length=20:=by simp [m.mask.h,m.bits.h]
  have h2:(r.mod.mask.l.map (d7 .i64)++r.mod.bits.l.map (d7 .i64)).length=20:=by simp [r.mod.mask.h,r.mod.bits.h]
  unfold spl;rw [h1,List.take_succ_cons,List.take_zero,show 1+20=20+1 from rfl,jp,List.drop_of_length_le (by omega)];simp
theorem ypu {a b c xs:List T} {n j:Nat} (ha:a.length=n) (hj:j+xs.length<=b.length):spl (a++(b++c)) (n+j) xs=a++(spl b j xs++c):=by
  subst ha;unfold spl;rw [List.take_length_add_append,Nat.add_assoc,List.drop_length_add_append,List.take_append_of_le_length (by omega),List.drop_append_of_le_length (by omega)];simp only [ey]
theorem ypw {l:List Alt} {i:Nat} (m:Pat) (h:i<l.length):spl (vecC eAlt l) (i*21+1) (m.mask.l.map (d7 .i64)++(m.bits.l.map (d7 .i64)))=vecC eAlt (l.set i { l.getD i default with mod:=m }):=by
  rw [<- z86 eAlt 21 { l.getD i default with mod:=m } zc6 h];obtain ⟨h1,h2⟩:=zjl eAlt 21 zc6 h;have hc:=zc6 (l.getD i default);have hn:=zc6 { l.getD i default with mod:=m };have hm:(m.mask.l.map (d7 .i64)++m.bits.l.map (d7 .i64)).length=20:=by simp [m.mask.h,m.bits.h]
  rw [h1,z69 h2 (by rw [hn,hc]),ypu h2 (by rw [eu,ek,ek,m.mask.h,m.bits.h,hc];omega),yg4]
def zll (k:Nat) (link:Int) (tag:Int):Option (List (List Alt)):=((zbi k (⟨link,tag⟩:Spot)).bind fun ai=>some [[(⟨link,ai⟩:Alt)]])
theorem zsz (ax:Axs) (hx:NoAx ax) (k:Nat) (link:Int) (tag:Int) (v:List (List Alt)) (H:zll k link tag=some v):Pure Tryz.prog (EE ax) [] 62 [.int .i64 link,.int .i64 tag] (zbp v):=by
 rw [zll] at H;refine en [.tmp 4] 15 [0,1] (hx.no _ (by decide)) (fn62 ax) ?_;intro h hh;apply d6;refine rk [0,1] [] hh fun h hh=>?_;obtain ⟨ai,e1,H⟩:=zad H;apply d6;refine rkc [0,5] [] [(ePat ai,stL [])] hh ?_ ?_
 .exact ⟨ff ((zdj ax hx k (⟨link,tag⟩:Spot) ai e1 ).call _),trivial⟩
 clear hh h;intro h hh;apply d6;refine rk [4] [] hh fun h hh=>?_;cases H;exact rt hh
def zie (k:Nat) (b:ze2) (fv:Spot):Option Bool:=(if b.port=fv.port then some (decide (b.tag=fv.tag)) else some false)
theorem zpg (ax:Axs) (hx:NoAx ax) (k:Nat) (b:ze2) (fv:Spot) (v:Bool) (H:zie k b fv=some v):Pure Tryz.prog (EE ax) [] 92 [zgm b,.cp [.int .i64 fv.port,.int .i64 fv.tag]] (.bool v):=by
 rw [zie] at H;refine en [.tmp 3] 16 [0,1] (hx.no _ (by decide)) (fn92 ax) ?_;intro h hh;apply d6;refine rk [1,2] [] hh fun h hh=>?_;rcases isp H with ⟨c1,H⟩|⟨c1,H⟩;rotate_left
 .skip;apply d6;refine rk [3] [] (f3 hh (zAb c1) (z8f ax)) fun h hh=>?_;cases H;exact rt hh
 apply d6;refine rk [3] [] (f3 hh (zAa c1) (f2 (z8f ax) (yij ax))) fun h hh=>?_;cases H;exact rt hh
def zba (k:Nat) (s_:List ze2) (f_:ze2->Option Bool):Nat->Int->Option (Int ⊕ Unit)
 |0,_=>none
 |m+1,i=>(if i<(s_.length:Int) then (if 0<=i/\i<(s_.length:Int) then ((f_ (gx s_ i)).bind fun r=>(if r=true then some (.inl i) else zba k s_ f_ m (d9.wrap (i+1)))) else none) else some (.inr ()))
def zcm (k:Nat) (s_:List ze2) (f_:ze2->Option Bool):Option Int:=((zba k s_ f_ k 0:Option (Int ⊕ Unit)).bind fun o=>i9 (fun r=>some r) (fun s_2=>some (-1)) o)
theorem zke (ax:Axs) (hx:NoAx ax) (k:Nat) (s_:List ze2) (f_:ze2->Option Bool) (v:Int) (H:zcm k s_ f_=some v) (f__f:Nat) (f__c:List T) (f__i:T.idsL 0 f__c=true) (f__h:∀ (y0:ze2) (w:Bool),f_ y0=some w->Pure Tryz.prog (EE ax) [] f__f ([]++[zgm y0]++f__c) (.bool w)):Pure Tryz.prog (EE ax) [] 91 [ztc s_,.fn f__f [] f__c] (.int .i64 v):=by
 rw [zcm] at H;refine en (ha:=by simp only [zb2,zc5,idsA,idsB,idsC,f__i,el]) [.tmp 4] 19 [0,1] (hx.no _ (by decide)) (fn91 ax) ?_;intro h hh;apply d6;refine rk [0,1] [] hh fun h hh=>?_;repeat apply d6
 refine rk [0,1,7,8] [] hh fun h hh=>?_;obtain ⟨o,H1,H⟩:=zad H;refine cu [] 0 (fun h bs=>∃ s_2:Unit,o=.inr s_2/\(True)/\bs=[]) ?_ ?_
 .skip;apply fo;refine iw [0,1,7,8] (fun m h bs=>∃ (i:Int),zba k s_ f_ m i=some o/\(h 0=ztc s_/\h 1=.fn f__f [] f__c/\h 7=.int .i64 (s_.length:Int)/\h 8=.int .i64 i)/\bs=[]) ?_ k _ _ ?_;rotate_left
  .exact ⟨0,H1,kq hh,rfl⟩
  clear hh h H1;rintro m h bs ⟨i,H1,hh,rfl⟩;rcases m with _|m
  .rw [zba] at H1;cases H1
  rw [zba] at H1;apply d6;refine rk [0,1,7,8,9] [] hh fun h hh=>?_;rcases isp H1 with ⟨c1,H1⟩|⟨c1,H1⟩;rotate_left
  .skip;apply d6;refine cf (f2 hh (zAb c1)) ?_;refine xk ?_;cases H1;exact ce (f2 hh ((fun m=>zdz (gb m) f__i))) ⟨_,rfl,kq hh,rfl⟩
  apply d6;refine ct (f2 hh (zAa c1)) ?_;refine sk ?_;apply d6;apply fo;apply d6;refine rk [0,1,5,7,8] [] hh fun h hh=>?_;obtain ⟨g2,H1⟩:=isg H1;obtain ⟨r,e3,H1⟩:=zad H1;apply d6;refine rkp [0,1,5,7,8,16] [] [.bool r] (f2 hh (zah g2)) ?_ ?_
  .exact ⟨ff ((f__h (gx s_ i) r e3).call _),trivial⟩
  clear hh h;intro h hh;rcases isb H1 with ⟨c4,H1⟩|⟨c4,H1⟩;rotate_left
  .skip;refine cf (f2 hh c4) ?_;refine sk ?_;refine rk [0,1,7,8] [] (f2 hh c4) fun h hh=>?_;exact rd m (f2 hh ((fun m=>zdz (gb m) f__i))) ⟨(d9.wrap (i+1)),H1,kq hh,rfl⟩
  refine ct (f2 hh c4) ?_;apply d6;refine rk [4] [] (f2 hh c4) fun h hh=>?_;cases H1;obtain rfl:=sinl H;exact rt hh
 clear hh h;rintro h bs ⟨s_2,rfl,hh,rfl⟩;replace H:=sinr H;apply d6;refine rk [4] [] hh fun h hh=>?_;cases H;exact rt hh
def znf (k:Nat) (t:List Rule) (s_:Spot):Option (ze2×Bool):=((zir k t).bind fun cb=>((zcm k cb (fun y=>zie k y s_)).bind fun ag=>(if ag<0 then some ((⟨0,0,[]⟩:ze2),false) else (if 0<=ag/\ag<(cb.length:Int) then some ((gx cb ag),true) else none))))
theorem z3l (ax:Axs) (hx:NoAx ax) (k:Nat) (t:List Rule) (s_:Spot) (v:ze2×Bool) (H:znf k t s_=some v):Pure Tryz.prog (EE ax) [] 58 [zas t,zd2 s_] (tupT [zgm v.1,.bool v.2]):=by
 rw [znf] at H;refine enN [.cell 4 78,.tmp 5] 20 [0,1] (hx.no _ (by decide)) (fn58 ax) ?_;intro h hh;apply d6;refine rk [0,3,4] [] hh fun h hh=>?_;refine zk 3 0 2 true [.int .i64 s_.port,.int .i64 s_.tag] [0,3,4] hh fun h hh=>?_;obtain ⟨cb,e1,H⟩:=zad H;apply d6;refine rkp [3,4,6] [] [ztc cb] hh ?_ ?_
 .exact ⟨ff ((zu5 ax hx k t cb e1 ).call _),trivial⟩
 clear hh h;intro h hh;obtain ⟨ag,e2,H⟩:=zad H;apply d6;refine rkp [4,6,7] [] [.int .i64 ag] hh ?_ ?_
 .exact ⟨ff ((zke ax hx k cb (fun y=>zie k y s_) ag e2 92 [.cp [.int .i64 s_.port,.int .i64 s_.tag]] (by simp only [zb2,zc5,idsA,idsB,idsC,el]) (fun y w hw=>by first|exact zpg ax hx k y s_ w hw|exact (zpg ax hx k y s_ w hw))).call _),trivial⟩
 clear hh h;intro h hh;repeat apply d6
 refine rk [4,6,7,14] [] hh fun h hh=>?_;rcases isp H with ⟨c3,H⟩|⟨c3,H⟩;rotate_left
 .skip;refine cf (f2 hh (zAb c3)) ?_;refine sk ?_;obtain ⟨g4,H⟩:=isg H;apply d6;refine rk [4,5] [] (f2 hh (zah g4)) fun h hh=>?_;cases H;exact rtc hh
 refine ct (f2 hh (zAa c3)) ?_;apply d6;refine rk [4,5] [] hh fun h hh=>?_;refine nz 1 2 1 ?_;cases H;exact rtc hh
def zfs (k:Nat) (s_:Rule) (fv:Rule):Option Bool:=((zfy k (⟨fv.prio,fv.mat,s_.step,s_.outs⟩:Rule) fv).bind fun br=>some br)
theorem zln (ax:Axs) (hx:NoAx ax) (k:Nat) (s_:Rule) (fv:Rule) (v:Bool) (H:zfs k s_ fv=some v):Pure Tryz.prog (EE ax) [] 95 [zao s_,.cp (d7 .i64 fv.prio :: (fv.mat.mask.l.map (d7 .i64)++(fv.mat.bits.l.map (d7 .i64)++[d7 .i64 fv.step,zbp fv.outs])))] (.bool v):=by
 rw [zfs] at H;refine en [.tmp 3] 13 [0,1] (hx.no _ (by decide)) (fn95 ax) ?_;intro h hh;apply d6;refine rk [1,2] [] hh fun h hh=>?_;apply d6;refine ds 5 [(6,none),(8,some 0)] [1,2] [] [] [] hh trivial trivial fun h hh=>?_;obtain ⟨br,e1,H⟩:=zad H;apply d6;refine rkp [3] [] [.bool br] hh ?_ ?_
 .exact ⟨ff ((zqi ax hx k (⟨fv.prio,fv.mat,s_.step,s_.outs⟩:Rule) fv br e1 ).call _),trivial⟩
 clear hh h;intro h hh;cases H;exact rt hh
def za9 (k:Nat) (s_:List Rule) (f_:Rule->Option Bool):Nat->Int->Option (Int ⊕ Unit)
 |0,_=>none
 |m+1,i=>(if i<(s_.length:Int) then (if 0<=i/\i<(s_.length:Int) then ((f_ (gx s_ i)).bind fun r=>(if r=true then some (.inl i) else za9 k s_ f_ m (d9.wrap (i+1)))) else none) else some (.inr ()))
def zcl (k:Nat) (s_:List Rule) (f_:Rule->Option Bool):Option Int:=((za9 k s_ f_ k 0:Option (Int ⊕ Unit)).bind fun o=>i9 (fun r=>some r) (fun s_2=>some (-1)) o)
theorem zkd (ax:Axs) (hx:NoAx ax) (k:Nat) (s_:List Rule) (f_:Rule->Option Bool) (v:Int) (H:zcl k s_ f_=some v) (f__f:Nat) (f__c:List T) (f__i:T.idsL 0 f__c=true) (f__h:∀ (y0:Rule) (w:Bool),f_ y0=some w->Pure Tryz.prog (EE ax) [] f__f ([]++[zao y0]++f__c) (.bool w)):Pure Tryz.prog (EE ax) [] 94 [zas s_,.fn f__f [] f__c] (.int .i64 v):=by
 rw [zcl] at H;refine en (ha:=by simp only [zb2,zc5,idsA,idsB,idsC,f__i,el]) [.tmp 4] 19 [0,1] (hx.no _ (by decide)) (fn94 ax) ?_;intro h hh;apply d6;refine rk [0,1] [] hh fun h hh=>?_;repeat apply d6
 refine rk [0,1,7,8] [] hh fun h hh=>?_;obtain ⟨o,H1,H⟩:=zad H;refine cu [] 0 (fun h bs=>∃ s_2:Unit,o=.inr s_2/\(True)/\bs=[]) ?_ ?_
 .skip;apply fo;refine iw [0,1,7,8] (fun m h bs=>∃ (i:Int),za9 k s_ f_ m i=some o/\(h 0=zas s_/\h 1=.fn f__f [] f__c/\h 7=.int .i64 (s_.length:Int)/\h 8=.int .i64 i)/\bs=[]) ?_ k _ _ ?_;rotate_left
  .exact ⟨0,H1,kq hh,rfl⟩
  clear hh h H1;rintro m h bs ⟨i,H1,hh,rfl⟩;rcases m with _|m
  .rw [za9] at H1;cases H1
  rw [za9] at H1;apply d6;refine rk [0,1,7,8,9] [] hh fun h hh=>?_;rcases isp H1 with ⟨c1,H1⟩|⟨c1,H1⟩;rotate_left
  .skip;apply d6;refine cf (f2 hh (zAb c1)) ?_;refine xk ?_;cases H1;exact ce (f2 hh ((fun m=>zdz (gb m) f__i))) ⟨_,rfl,kq hh,rfl⟩
  apply d6;refine ct (f2 hh (zAa c1)) ?_;refine sk ?_;apply d6;apply fo;apply d6;refine rk [0,1,5,7,8] [] hh fun h hh=>?_;obtain ⟨g2,H1⟩:=isg H1;obtain ⟨r,e3,H1⟩:=zad H1;apply d6;refine rkp [0,1,5,7,8,16] [] [.bool r] (f2 hh (zah g2)) ?_ ?_
  .exact ⟨ff ((f__h (gx s_ i) r e3).call _),trivial⟩
  clear hh h;intro h hh;rcases isb H1 with ⟨c4,H1⟩|⟨c4,H1⟩;rotate_left
  .skip;refine cf (f2 hh c4) ?_;refine sk ?_;refine rk [0,1,7,8] [] (f2 hh c4) fun h hh=>?_;exact rd m (f2 hh ((fun m=>zdz (gb m) f__i))) ⟨(d9.wrap (i+1)),H1,kq hh,rfl⟩
  refine ct (f2 hh c4) ?_;apply d6;refine rk [4] [] (f2 hh c4) fun h hh=>?_;cases H1;obtain rfl:=sinl H;exact rt hh
 clear hh h;rintro h bs ⟨s_2,rfl,hh,rfl⟩;replace H:=sinr H;apply d6;refine rk [4] [] hh fun h hh=>?_;cases H;exact rt hh
def zb8 (k:Nat) (t:List Rule) (b:ze2):Nat->Int->(List Rule)->Nat->(List Int)->Nat->Option (List Rule×Nat×List Int×Nat)
 |0,_,_,_,_,_=>none
 |m+1,i,l,n,l2,n2=>(if i<(b.rules.length:Int) then (if 0<=i/\i<(b.rules.length:Int) then (if (0:Int)<=(gx b.rules i)/\(gx b.rules i)<(t.length:Int) then ((zki k (⟨(gx t (gx b.rules i)).prio,((gx t (gx b.rules i)).mat),(gx t (gx b.rules i)).step,(gx t (gx b.rules i)).outs⟩:Rule)).bind fun bg=>(if bg=true then (if (n2+1)*9<=1000000000 then zb8 k t b m (d9.wrap (i+1)) l n (l2++[(-1)]) (n2+1) else none) else (if l.length=n then ((zcl k l (fun y=>zfs k y (⟨(gx t (gx b.rules i)).prio,((gx t (gx b.rules i)).mat),(gx t (gx b.rules i)).step,(gx t (gx b.rules i)).outs⟩:Rule))).bind fun ba=>(if ba<0 then (if (n+1)*201<=1000000000 then (if (n2+1)*9<=1000000000 then zb8 k t b m (d9.wrap (i+1)) (l++[(⟨(gx t (gx b.rules i)).prio,((gx t (gx b.rules i)).mat),(gx t (gx b.rules i)).step,(gx t (gx b.rules i)).outs⟩:Rule)]) (n+1) (l2++[(n:Int)]) (n2+1) else none) else none) else (if (n2+1)*9<=1000000000 then zb8 k t b m (d9.wrap (i+1)) l n (l2++[ba]) (n2+1) else none))) else none))) else none) else none) else some (l,n,l2,n2))
def ziq (k:Nat) (t:List Rule) (b:ze2):Option (List Rule×List Int):=((zb8 k t b k 0 [] 0 [] 0:Option (List Rule×Nat×List Int×Nat)).bind fun s_=>(if s_.1.length=s_.2.1 then (if s_.2.2.1.length=s_.2.2.2 then some (s_.1,s_.2.2.1) else none) else none))
theorem zu4 (ax:Axs) (hx:NoAx ax) (k:Nat) (t:List Rule) (b:ze2) (v:List Rule×List Int) (H:ziq k t b=some v):Pure Tryz.prog (EE ax) [] 59 [zas t,zgm b] (tupT [zas v.1,ints v.2]):=by
 rw [ziq] at H;refine enN [.tmp 4,.tmp 5] 46 [0,1] (hx.no _ (by decide)) (fn59 ax) ?_;intro h hh;apply d6;refine rk [0,3] [] hh fun h hh=>?_;apply d6;refine rk [0,3,6] [] hh fun h hh=>?_;refine vk 6 23 [0,3,6] hh fun h hh=>?_;apply d6;refine rk [0,3,6,7] [] hh fun h hh=>?_;refine vk 7 1 [0,3,6,7] hh fun h hh=>?_;repeat apply d6
 refine rk [0,6,7,13,14,15] [] hh fun h hh=>?_;obtain ⟨s_,H1,H⟩:=zad H;refine cu [6,7] 3 (fun h bs=>(h 6=.arr 1 23 0 s_.2.1 s_.2.1 (s_.2.1*23)/\h 7=.arr 2 1 0 s_.2.2.2 s_.2.2.2 s_.2.2.2)/\bs=[.cells true 3 [.int .i64 b.port,.int .i64 b.tag,ints b.rules],.cells false (s_.2.1*23) (vecC zao s_.1),.cells false s_.2.2.2 (s_.2.2.1.map (d7 .i64))]) ?_ ?_
 .skip;apply fo;refine iw [0,6,7,13,14,15] (fun m h bs=>∃ (i:Int) (l:List Rule) (n:Nat) (l2:List Int) (n2:Nat),zb8 k t b m i l n l2 n2=some s_/\(h 0=zas t/\h 6=.arr 1 23 0 n n (n*23)/\h 7=.arr 2 1 0 n2 n2 n2/\h 13=ints b.rules/\h 14=.int .i64 (b.rules.length:Int)/\h 15=.int .i64 i)/\bs=[.cells true 3 [.int .i64 b.port,.int .i64 b.tag,ints b.rules],.cells false (n*23) (vecC zao l),.cells false n2 (l2.map (d7 .i64))]) ?_ k _ _ ?_;rotate_left
  .exact ⟨0,[],0,[],0,H1,kq hh,rfl⟩
  clear hh h H1;rintro m h bs ⟨i,l,n,l2,n2,H1,hh,rfl⟩;rcases m with _|m
  .rw [zb8] at H1;cases H1
  rw [zb8] at H1;apply d6;refine rk [0,6,7,13,14,15,16] [] hh fun h hh=>?_;rcases isp H1 with ⟨c1,H1⟩|⟨c1,H1⟩;rotate_left
  .skip;apply d6;refine cf (f2 hh (zAb c1)) ?_;refine xk ?_;cases H1;exact ce hh ⟨kq hh,rfl⟩
  apply d6;refine ct (f2 hh (zAa c1)) ?_;refine sk ?_;apply d6;apply fo;obtain ⟨g2,H1⟩:=isg H1;apply d6;refine rk [0,6,7,9,13,14,15] [] (f2 hh (zah g2)) fun h hh=>?_;obtain ⟨g3,H1⟩:=isg H1;apply d6;refine rk [0,6,7,10,13,14,15] [] (f2 hh (zah g3)) fun h hh=>?_;refine zk 10 3 23 true (d7 .i64 ((gx t (gx b.rules i)).prio) :: ((((gx t (gx b.rules i)).mat).mask).l.map (d7 .i64)++((((gx t (gx b.rules i)).mat).bits).l.map (d7 .i64)++[d7 .i64 ((gx t (gx b.rules i)).step),zbp ((gx t (gx b.rules i)).outs)]))) [0,6,7,10,13,14,15] hh fun h hh=>?_;obtain ⟨bg,e4,H1⟩:=zad H1;repeat apply d6
  refine rkp [0,6,7,10,13,14,15,24] [] [.bool bg] hh ?_ ?_
  .exact ⟨ff ((zux ax hx k (⟨(gx t (gx b.rules i)).prio,((gx t (gx b.rules i)).mat),(gx t (gx b.rules i)).step,(gx t (gx b.rules i)).outs⟩:Rule) bg e4 ).call _),trivial⟩
  clear hh h;intro h hh;rcases isb H1 with ⟨c5,H1⟩|⟨c5,H1⟩;rotate_left
  .skip;refine cf (f2 hh c5) ?_;refine sk ?_;obtain ⟨g7,H1⟩:=isg H1;obtain ⟨ba,e8,H1⟩:=zad H1;apply d6;refine rkp [0,6,7,10,11,13,14,15] [] [.int .i64 ba] (f2 hh c5) ?_ ?_
   .exact ⟨(by have q:=ff (Pure.lend (S:=stL [.cells true 3 [.int .i64 b.port,.int .i64 b.tag,ints b.rules],.cells false (n*23) (vecC zao l),.cells false n2 (l2.map (d7 .i64)),.gone]) (args:=[.arr 1 23 0 n n (n*23),.fn 95 [] [.cp (d7 .i64 ((gx t (gx b.rules i)).prio) :: ((((gx t (gx b.rules i)).mat).mask).l.map (d7 .i64)++((((gx t (gx b.rules i)).mat).bits).l.map (d7 .i64)++[d7 .i64 ((gx t (gx b.rules i)).step),zbp ((gx t (gx b.rules i)).outs)])))]]) (zkd ax hx k l (fun y=>zfs k y (⟨(gx t (gx b.rules i)).prio,((gx t (gx b.rules i)).mat),(gx t (gx b.rules i)).step,(gx t (gx b.rules i)).outs⟩:Rule)) ba e8 95 [.cp (d7 .i64 ((gx t (gx b.rules i)).prio) :: ((((gx t (gx b.rules i)).mat).mask).l.map (d7 .i64)++((((gx t (gx b.rules i)).mat).bits).l.map (d7 .i64)++[d7 .i64 ((gx t (gx b.rules i)).step),zbp ((gx t (gx b.rules i)).outs)])))] (by simp only [zb2,zc5,idsA,idsB,idsC,el]) (fun y w hw=>by first|exact zln ax hx k y (⟨(gx t (gx b.rules i)).prio,((gx t (gx b.rules i)).mat),(gx t (gx b.rules i)).step,(gx t (gx b.rules i)).outs⟩:Rule) w hw|exact (zln ax hx k y (⟨(gx t (gx b.rules i)).prio,((gx t (gx b.rules i)).mat),(gx t (gx b.rules i)).step,(gx t (gx b.rules i)).outs⟩:Rule) w hw))) (dx (yaj (fun x=>zch x) (by decide) (by rfl) g7) (dx (Or.inl rfl) (trivial))) rfl);(try simp only [c5] at q);exact q),trivial⟩
   clear hh h;intro h hh;repeat apply d6
   refine rk [0,6,7,10,11,13,14,15,32] [] (f2 hh c5) fun h hh=>?_;rcases isp H1 with ⟨c9,H1⟩|⟨c9,H1⟩;rotate_left
   .skip;refine cf (f2 hh (zAb c9)) ?_;refine sk ?_;obtain ⟨g12,H1⟩:=isg H1;refine rg [] [] [.cells true 3 [.int .i64 b.port,.int .i64 b.tag,ints b.rules],.cells false (n*23) (vecC zao l),.cells false (n2+1) ((l2++[ba]).map (d7 .i64)),.gone] (fun h=>h 0=zas t/\h 6=.arr 1 23 0 n n (n*23)/\h 7=.arr 2 1 0 (n2+1) (n2+1) (n2+1)/\h 13=ints b.rules/\h 14=.int .i64 (b.rules.length:Int)/\h 15=.int .i64 i) (f2 hh c5) trivial fun h hh=>?_;refine rk [0,6,7,13,14,15] [] (f2 hh c5) fun h hh=>?_;exact rd m hh ⟨(d9.wrap (i+1)),l,n,(l2++[ba]),(n2+1),H1,kq hh,rfl⟩
   refine ct (f2 hh (zAa c9)) ?_;apply d6;refine rk [0,6,7,10,11,13,14,15] [] (f2 hh c5) fun h hh=>?_;obtain ⟨g10,H1⟩:=isg H1;refine rg [] [] [.cells true 3 [.int .i64 b.port,.int .i64 b.tag,ints b.rules],.cells false ((n+1)*23) (vecC zao (l++[(⟨(gx t (gx b.rules i)).prio,((gx t (gx b.rules i)).mat),(gx t (gx b.rules i)).step,(gx t (gx b.rules i)).outs⟩:Rule)])),.cells false n2 (l2.map (d7 .i64)),.gone] (fun h=>h 0=zas t/\h 6=.arr 1 23 0 (n+1) (n+1) ((n+1)*23)/\h 7=.arr 2 1 0 n2 n2 n2/\h 11=.int .i64 (n:Int)/\h 13=ints b.rules/\h 14=.int .i64 (b.rules.length:Int)/\h 15=.int .i64 i) (f3 hh c5 ((show vecC zao [(⟨(gx t (gx b.rules i)).prio,((gx t (gx b.rules i)).mat),(gx t (gx b.rules i)).step,(gx t (gx b.rules i)).outs⟩:Rule)]=(d7 .i64 ((⟨(gx t (gx b.rules i)).prio,((gx t (gx b.rules i)).mat),(gx t (gx b.rules i)).step,(gx t (gx b.rules i)).outs⟩:Rule).prio) :: ((((⟨(gx t (gx b.rules i)).prio,((gx t (gx b.rules i)).mat),(gx t (gx b.rules i)).step,(gx t (gx b.rules i)).outs⟩:Rule).mat).mask).l.map (d7 .i64)++((((⟨(gx t (gx b.rules i)).prio,((gx t (gx b.rules i)).mat),(gx t (gx b.rules i)).step,(gx t (gx b.rules i)).outs⟩:Rule).mat).bits).l.map (d7 .i64)++[d7 .i64 ((⟨(gx t (gx b.rules i)).prio,((gx t (gx b.rules i)).mat),(gx t (gx b.rules i)).step,(gx t (gx b.rules i)).outs⟩:Rule).step),zbp ((⟨(gx t (gx b.rules i)).prio,((gx t (gx b.rules i)).mat),(gx t (gx b.rules i)).step,(gx t (gx b.rules i)).outs⟩:Rule).outs)]))) from zl7.trans rfl))) trivial fun h hh=>?_;obtain ⟨g11,H1⟩:=isg H1;refine rg [] [] [.cells true 3 [.int .i64 b.port,.int .i64 b.tag,ints b.rules],.cells false ((n+1)*23) (vecC zao (l++[(⟨(gx t (gx b.rules i)).prio,((gx t (gx b.rules i)).mat),(gx t (gx b.rules i)).step,(gx t (gx b.rules i)).outs⟩:Rule)])),.cells false (n2+1) ((l2++[(n:Int)]).map (d7 .i64)),.gone] (fun h=>h 0=zas t/\h 6=.arr 1 23 0 (n+1) (n+1) ((n+1)*23)/\h 7=.arr 2 1 0 (n2+1) (n2+1) (n2+1)/\h 13=ints b.rules/\h 14=.int .i64 (b.rules.length:Int)/\h 15=.int .i64 i) (f2 hh c5) trivial fun h hh=>?_;refine rk [0,6,7,13,14,15] [] (f2 hh c5) fun h hh=>?_;exact rd m hh ⟨(d9.wrap (i+1)),(l++[(⟨(gx t (gx b.rules i)).prio,((gx t (gx b.rules i)).mat),(gx t (gx b.rules i)).step,(gx t (gx b.rules i)).outs⟩:Rule)]),(n+1),(l2++[(n:Int)]),(n2+1),H1,kq hh,rfl⟩
  refine ct (f2 hh c5) ?_;obtain ⟨g6,H1⟩:=isg H1;apply d6;refine rg [] [] [.cells true 3 [.int .i64 b.port,.int .i64 b.tag,ints b.rules],.cells false (n*23) (vecC zao l),.cells false (n2+1) ((l2++[(-1)]).map (d7 .i64)),.gone] (fun h=>h 0=zas t/\h 6=.arr 1 23 0 n n (n*23)/\h 7=.arr 2 1 0 (n2+1) (n2+1) (n2+1)/\h 13=ints b.rules/\h 14=.int .i64 (b.rules.length:Int)/\h 15=.int .i64 i) (f2 hh c5) trivial fun h hh=>?_;refine xk ?_;refine rk [0,6,7,13,14,15] [] (f2 hh c5) fun h hh=>?_;exact rd m hh ⟨(d9.wrap (i+1)),l,n,(l2++[(-1)]),(n2+1),H1,kq hh,rfl⟩
 clear hh h;rintro h bs ⟨hh,rfl⟩;apply d6;refine rk [4,5] [] hh fun h hh=>?_;obtain ⟨g13,H⟩:=isg H;obtain ⟨g14,H⟩:=isg H;refine nf 4 (b:=1) (e:=23) (off:=0) (len:=s_.2.1) (cap:=s_.2.1) (M:=(s_.2.1*23)) (s_.1.map zao) (kq hh) (by rfl) (by omega) (by omega) (by rw [fl];exact zim (fun x=>zch x) g13) (fun t ht=>by obtain ⟨x,_,rfl⟩:=ip.1 ht;first|rfl|exact zi7 _|exact zh5 _|exact zc6 _|exact zch _ | (rw [ek];rfl)) (by rw [ek]<;>exact g13) (by omega) ?_;rw [zhs _ _ _ (by simp only [lzA]<;>omega)];simp only [scA];refine gk [4,5] hh fun h hh=>?_;refine nf 5 (b:=2) (e:=1) (off:=0) (len:=s_.2.2.2) (cap:=s_.2.2.2) (M:=s_.2.2.2) (s_.2.2.1.map (d7 .i64)) (kq hh) (by rfl) (by omega) (by omega) (by rw [fl,Nat.mul_one,zgb (fun _=>rfl),gc (by rw [ek];omega)]) (fun t ht=>by obtain ⟨x,_,rfl⟩:=ip.1 ht;first|rfl|exact zi7 _|exact zh5 _|exact zc6 _|exact zch _ | (rw [ek];rfl)) (by rw [ek]<;>exact g14) (by omega) ?_;rw [zhs _ _ _ (by simp only [lzA]<;>omega)];simp only [scA];refine gk [4,5] hh fun h hh=>?_;cases H;exact rt hh
end Go.Proofs.YteifcnjpjjaikaaGreat
