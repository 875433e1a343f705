/- Part 11 of the proof of FitKeepsPackets (several texts in one; no further condition). -/
import Derived.Test.YteifcnjpjjaikaaGreatZH
import Derived.Test.YteifcnjpjjaikaaGreatZI
import Derived.Test.YteifcnjpjjaikaaGreatZJ
import Derived.Test.YteifcnjpjjaikaaGreatZF
set_option linter.unusedSimpArgs false
set_option linter.unusedVariables false
set_option linter.unusedSectionVars false
namespace Go.Proofs.YteifcnjpjjaikaaGreat
set_option maxHeartbeats 8000000
open _root_.And renaming intro->dx
open _root_.Bool renaming and_eq_true->d8,and_self->el,eq_iff_iff->np,not_false->gn,not_true->gp
open Go.IntKind renaming i64->d9
open _root_.List renaming any_eq_true->ky,append_assoc->ey,append_nil->fp,cons_append->fq,drop_succ_cons->jp,drop_zero->fl,filterMap_cons->p8,filter_cons->oi,find?_cons->md,flatten_cons->gh,flatten_nil->fg,getD_eq_getElem?_getD->eh,getElem?_cons_succ->jo,getElem?_cons_zero->fx,getElem_map->l6,length_append->eu,length_cons->ez,length_map->ek,length_nil->gd,length_singleton->gz,map_cons->ge,mem_filter->px,mem_map->ip,mem_range->jf,mem_singleton->jv,nil_append->fb,replicate->ew,set_cons_succ->kb,set_cons_zero->ku,singleton_append->lu
open _root_.Nat renaming reduceAdd->ed,reduceEqDiff->ee,reduceLT->fm,reduceLeDiff->jr,reduceMul->fy,reduceSub->gw,zero_add->f6
open _root_.Option renaming bind_some->dz,map_some->ld
open Go.Proofs.YteifcnjpjjaikaaGreat.Pure renaming clr->gq
open Go.Proofs.YteifcnjpjjaikaaGreat.T renaming int->d7,ren->py,renL->nu
open Go.Proofs.YteifcnjpjjaikaaGreat.TS renaming add_ne->o9,add_same->qj,set_ne->gy,set_same->iu
open Go.Proofs.YteifcnjpjjaikaaGreat.TW renaming seq->d6
open Go.Proofs.YteifcnjpjjaikaaGreat.zap renaming call->ff
set_option maxRecDepth 100000
open Go Go.RowKit
def zc1 (k:Nat) (n:Net) (c:zbc) (node:Int) (h_:Ar 10):Option (List (Ar 10)×Int):=(if 0<=node/\node<(c.tables.length:Int) then ((zj0 k (gx c.tables node) h_).bind fun al=>(if al<0 then some ([],(-1)) else (if 0<=al/\al<((gx c.tables node).length:Int) then ((zle k n (⟨[],(-1)⟩:zfp) (⟨(gx (gx c.tables node) al).prio,((gx (gx c.tables node) al).mat),(gx (gx c.tables node) al).step,(gx (gx c.tables node) al).outs⟩:Rule) h_).bind fun dj=>some (dj,(gx (gx c.tables node) al).step)) else none))) else none)
theorem zge (ax:Axs) (hx:ydt ax) (k:Nat) (n:Net) (c:zbc) (node:Int) (h_:Ar 10) (v:List (Ar 10)×Int) (H:zc1 k n c node h_=some v):Pure Tryz.prog (EE ax) [] 30 [eNet n,zg9 c,.int .i64 node,.agg (h_.l.map (d7 .i64))] (tupT [zlw v.1,.int .i64 v.2]):=by
 rw [zc1] at H;refine enN [.tmp 8,.tmp 9] 36 [0,1,2,3] (hx.no _ (by decide)) (fn30 ax) ?_;intro h hh;repeat apply d6
 refine rk [2,4,5,7] [] hh fun h hh=>?_;obtain ⟨g1,H⟩:=isg H;obtain ⟨al,e2,H⟩:=zad H;repeat apply d6
 refine dk 6 [2,4,5,7,10] [] [] [(.int .i64 al,stL [.cells true 3 [zax n.nodes,zay n.links,zaz n.edges],.cells true 3 [.int .i64 c.version,zau c.tables,zat c.steps],.cells true 10 (h_.l.map (d7 .i64))])] (f2 hh (zah g1)) trivial ?_ ?_
 .exact ⟨ff ((zxs ax hx k (gx c.tables node) h_ al e2 ).call _),trivial⟩
 clear hh h;intro h hh;repeat apply d6
 refine rk [2,4,5,7,10,20] [] hh fun h hh=>?_;rcases isp H with ⟨c3,H⟩|⟨c3,H⟩;rotate_left
 .skip;repeat apply d6
  refine cf (f2 hh (zAb c3)) ?_;repeat apply d6
  refine sk ?_;obtain ⟨g4,H⟩:=isg H;repeat apply d6
  refine rk [4,7,11] [] (f3 hh (zah g1) (zah g4)) fun h hh=>?_;obtain ⟨dj,e5,H⟩:=zad H;repeat apply d6
  refine dk 7 [8,9] [zlw dj] [] [] (f3 hh (bt135 ax) (yp3 ax)) ?_ trivial ?_
  .exact ⟨na ((z3g ax hx k n (⟨[],(-1)⟩:zfp) (⟨(gx (gx c.tables node) al).prio,((gx (gx c.tables node) al).mat),(gx (gx c.tables node) al).step,(gx (gx c.tables node) al).outs⟩:Rule) h_ dj e5 ).call (stL [.cells true 3 [zax n.nodes,zay n.links,zaz n.edges],.cells true 3 [.int .i64 c.version,zau c.tables,zat c.steps],.cells true 10 (h_.l.map (d7 .i64)),.cells true 23 (d7 .i64 ((gx (gx c.tables node) al).prio) :: ((((gx (gx c.tables node) al).mat).mask).l.map (d7 .i64)++((((gx (gx c.tables node) al).mat).bits).l.map (d7 .i64)++[d7 .i64 ((gx (gx c.tables node) al).step),zbp ((gx (gx c.tables node) al).outs)])))])),trivial⟩
  clear hh h;intro h hh;cases H;exact rt hh
 repeat apply d6
 refine ct (f2 hh (zAa c3)) ?_;repeat apply d6
 refine rk [8,9] [] hh fun h hh=>?_;refine nk 8 10 [8,9] hh fun h hh=>?_;cases H;exact rt hh
def zc7 (k:Nat) (a:List (Ar 10)) (b:List (Ar 10)):Nat->Int->Option (Bool ⊕ Unit)
 |0,_=>none
 |m+1,i=>(if i<(a.length:Int) then (if 0<=i/\i<(a.length:Int) then (if 0<=i/\i<(b.length:Int) then (if (gx a i)=(gx b i) then zc7 k a b m (d9.wrap (i+1)) else some (.inl false)) else none) else none) else some (.inr ()))
def zhk (k:Nat) (a:List (Ar 10)) (b:List (Ar 10)):Option Bool:=(if (a.length:Int)≠(b.length:Int) then some false else ((zc7 k a b k 0:Option (Bool ⊕ Unit)).bind fun o=>Sum.elim (fun r=>some r) (fun s_=>some true) o))
theorem zhy (ax:Axs) (hx:ydt ax) (k:Nat) (a:List (Ar 10)) (b:List (Ar 10)) (v:Bool) (H:zhk k a b=some v):Pure Tryz.prog (EE ax) [] 31 [zlw a,zlw b] (.bool v):=by
 rw [zhk] at H;refine en [.tmp 4] 26 [0,1] (hx.no _ (by decide)) (fn31 ax) ?_;intro h hh;repeat apply d6
 refine rk [0,1] [] hh fun h hh=>?_;repeat apply d6
 refine rk [0,1,10] [] (f2 hh (ti66 ax)) fun h hh=>?_;rcases isp H with ⟨c1,H⟩|⟨c1,H⟩;rotate_left
 .skip;repeat apply d6
  refine cf (f2 hh (zAb c1)) ?_;repeat apply d6
  refine sk ?_;repeat apply d6
  refine rk [0,1,5] [] hh fun h hh=>?_;obtain ⟨o,H1,H⟩:=zad H;repeat apply d6
  refine cu [] 0 (fun h bs=>∃ s_:Unit,o=.inr s_/\(True)/\bs=[]) ?_ ?_
  .skip;repeat apply d6
   apply TW.block;repeat apply d6
   refine TW.loopT [0,1,5] (fun m h bs=>∃ (i:Int),zc7 k a b m i=some o/\(h 0=zlw a/\h 1=zlw b/\h 5=.int .i64 i)/\bs=[]) ?_ k _ _ ?_;rotate_left
   .exact ⟨0,H1,kq hh,rfl⟩
   clear hh h H1;rintro m h bs ⟨i,H1,hh,rfl⟩;rcases m with _|m
   .rw [zc7] at H1;cases H1
   rw [zc7] at H1;repeat apply d6
   refine rk [0,1,5,14] [] (f2 hh (ti66 ax)) fun h hh=>?_;rcases isp H1 with ⟨c2,H1⟩|⟨c2,H1⟩;rotate_left
   .skip;repeat apply d6
    refine cf (f2 hh (zAb c2)) ?_;refine xk ?_;cases H1;exact ce hh ⟨_,rfl,kq hh,rfl⟩
   repeat apply d6
   refine ct (f2 hh (zAa c2)) ?_;repeat apply d6
   refine sk ?_;repeat apply d6
   apply TW.block;obtain ⟨g3,H1⟩:=isg H1;obtain ⟨g4,H1⟩:=isg H1;repeat apply d6
   refine dk 8 [0,1,5,25] [] [] [] (f3 hh (zah g3) (f3 (zah g4) ((aq60 ax (gx a i) (gx b i)).2) (ti66 ax))) trivial trivial fun h hh=>?_;rcases isp H1 with ⟨c5,H1⟩|⟨c5,H1⟩;rotate_left
   .skip;repeat apply d6
    refine ct (f2 hh (zAb c5)) ?_;repeat apply d6
    refine rk [4] [] hh fun h hh=>?_;cases H1;obtain rfl:=sinl H;exact rt hh
   repeat apply d6
   refine cf (f2 hh (zAa c5)) ?_;repeat apply d6
   refine sk ?_;repeat apply d6
   refine rk [0,1,5] [] hh fun h hh=>?_;exact rd m hh ⟨(d9.wrap (i+1)),H1,kq hh,rfl⟩
  clear hh h;rintro h bs ⟨s_,rfl,hh,rfl⟩;replace H:=sinr H;repeat apply d6
  refine rk [4] [] hh fun h hh=>?_;cases H;exact rt hh
 repeat apply d6
 refine ct (f2 hh (zAa c1)) ?_;repeat apply d6
 refine rk [4] [] hh fun h hh=>?_;cases H;exact rt hh
def zeb (k:Nat) (n:Net) (c:zbc) (m_:Offl) (h_:Ar 10) (node:Int):Option Bool:=((zqs k n c 40).bind fun dl=>((zek k h_).bind fun bn=>(((if dl=true then (if bn=true then (if node<0 then some true else some (decide ((n.nodes.length:Int)<=node))) else some true) else some true):Option Bool).bind fun s_=>(if s_=true then some true else ((zng k n c m_).bind fun af=>(((if af.2≠0 then some true else some (decide ((af.1.tables.length:Int)≠(c.tables.length:Int)))):Option Bool).bind fun s_2=>(if s_2=true then some (decide (af.2≠0)) else (if 0<=m_.node/\m_.node<(c.tables.length:Int) then ((zhh k (gx c.tables m_.node) m_.port m_.tag).bind fun ag=>((zhg k (gx c.tables m_.node) ag).bind fun ah=>(if 0<=m_.out/\m_.out<(n.links.length:Int) then (((if 0<=m_.node/\m_.node<(af.1.tables.length:Int) then (if ((gx af.1.tables m_.node).length:Int)≠(d9.wrap ((d9.wrap ((d9.wrap (((gx c.tables m_.node).length:Int) - (ag.length:Int)))+1))+(ah.length:Int))) then some true else (if (0:Int)<=((gx n.links m_.out).to)/\((gx n.links m_.out).to)<(af.1.tables.length:Int) then (if (0:Int)<=((gx n.links m_.out).to)/\((gx n.links m_.out).to)<(c.tables.length:Int) then some (decide (((gx af.1.tables ((gx n.links m_.out).to)).length:Int)≠(d9.wrap (((gx c.tables ((gx n.links m_.out).to)).length:Int)+(ag.length:Int))))) else none) else none)) else none):Option Bool).bind fun s_3=>(if s_3=true then some false else (((if node=((gx n.links m_.out).to) then (if (0:Int)<=0/\0<(10:Int) then (if (gx h_.l 0)=m_.out then (if (0:Int)<=9/\9<(10:Int) then (if (gx h_.l 9)=m_.first then some true else (if node=m_.node then (if (gx h_.l 0)=m_.back then (if m_.first<(gx h_.l 9) then some (decide ((gx h_.l 9)<=(d9.wrap (m_.first+(ah.length:Int))))) else some false) else some false) else some false)) else none) else (if node=m_.node then (if (gx h_.l 0)=m_.back then (if (0:Int)<=9/\9<(10:Int) then (if m_.first<(gx h_.l 9) then some (decide ((gx h_.l 9)<=(d9.wrap (m_.first+(ah.length:Int))))) else some false) else none) else some false) else some false)) else none) else (if node=m_.node then (if (0:Int)<=0/\0<(10:Int) then (if (gx h_.l 0)=m_.back then (if (0:Int)<=9/\9<(10:Int) then (if m_.first<(gx h_.l 9) then some (decide ((gx h_.l 9)<=(d9.wrap (m_.first+(ah.length:Int))))) else some false) else none) else some false) else none) else some false)):Option Bool).bind fun s_4=>(((if s_4=true then some false else (if node≠m_.node then some true else (if (0:Int)<=0/\0<(10:Int) then (if (gx h_.l 0)≠m_.port then some true else (if (0:Int)<=9/\9<(10:Int) then some (decide ((gx h_.l 9)≠m_.tag)) else none)) else none))):Option Bool).bind fun s_5=>(((if s_5=true then ((zc1 k n c node h_).bind fun bw=>((zc1 k n af.1 node h_).bind fun bz=>((zhk k bw.1 bz.1).bind fun cg=>(if cg=true then (if bw.2≠bz.2 then some (.inl false) else some (.inr ())) else some (.inl false))))) else some (.inr ())):Option (Bool ⊕ Unit)).bind fun o=>Sum.elim (fun r=>some r) (fun s_6=>(if (0:Int)<=0/\0<(10:Int) then (if (0:Int)<=9/\9<(10:Int) then ((zc1 k n c m_.node ((h_.set 0 m_.port).set 9 m_.tag)).bind fun ar=>((zc1 k n af.1 m_.node ((h_.set 0 m_.port).set 9 m_.tag)).bind fun ay=>(((if (ay.1.length:Int)≠1 then some true else (if ay.2≠(-1) then some true else (if (0:Int)<=0/\0<(ay.1.length:Int) then some (decide ((gx (gx ay.1 0).l 0)≠m_.out)) else none))):Option Bool).bind fun s_7=>(if s_7=true then some false else (if (0:Int)<=0/\0<(ay.1.length:Int) then ((zc1 k n af.1 ((gx n.links m_.out).to) (gx ay.1 0)).bind fun au=>(if (au.1.length:Int)=0 then (((if (ar.1.length:Int)=0 then some (decide (ar.2=(-1))) else some false):Option Bool).bind fun s_8=>some s_8) else (((if (au.1.length:Int)≠1 then some true else (if au.2≠(-1) then some true else (if (0:Int)<=0/\0<(au.1.length:Int) then some (decide ((gx (gx au.1 0).l 0)≠m_.back)) else none))):Option Bool).bind fun s_9=>(if s_9=true then some false else (if (0:Int)<=0/\0<(au.1.length:Int) then ((zc1 k n af.1 m_.node (gx au.1 0)).bind fun b9=>((zhk k b9.1 ar.1).bind fun ci=>(if ci=true then some (decide (b9.2=ar.2)) else some false))) else none))))) else none))))) else none) else none)) o))))) else none))) else none))))))))
theorem zne (ax:Axs) (hx:ydt ax) (k:Nat) (n:Net) (c:zbc) (m_:Offl) (h_:Ar 10) (node:Int) (v:Bool) (H:zeb k n c m_ h_ node=some v):Pure Tryz.prog (EE ax) [] 5 [eNet n,zg9 c,zrq m_,.agg (h_.l.map (d7 .i64)),.int .i64 node] (.bool v):=by
 rw [zeb] at H;refine en [.tmp 10] 336 [0,1,2,3,4] (hx.no _ (by decide)) (fn5 ax) ?_;intro h hh;repeat apply d6
 refine rk [4,5,6,7,8] [] hh fun h hh=>?_;obtain ⟨dl,e1,H⟩:=zad H;repeat apply d6
 refine rkp [4,5,6,7,8,11] [] [.bool dl] hh ?_ ?_
 .exact ⟨ff ((z7b ax hx k n c 40 dl e1 ).call _),trivial⟩
 clear hh h;intro h hh;obtain ⟨bn,e2,H⟩:=zad H;repeat apply d6
 refine rkp [4,5,6,7,8,11,12] [] [.bool bn] hh ?_ ?_
 .exact ⟨ff ((zid ax hx k h_ bn e2 ).call _),trivial⟩
 clear hh h;intro h hh;obtain ⟨s_,H1,H⟩:=zad H;repeat apply d6
 refine cu [4,5,6,7,8,50] 4 (fun h bs=>(h 4=.int .i64 node/\h 5=.ptr 0 0 3/\h 6=.ptr 1 0 3/\h 7=.ptr 2 0 6/\h 8=.ptr 3 0 10/\h 50=.bool s_)/\bs=[.cells true 3 [zax n.nodes,zay n.links,zaz n.edges],.cells true 3 [.int .i64 c.version,zau c.tables,zat c.steps],.cells true 6 [.int .i64 m_.node,.int .i64 m_.port,.int .i64 m_.tag,.int .i64 m_.out,.int .i64 m_.back,.int .i64 m_.first],.cells true 10 (h_.l.map (d7 .i64))]) ?_ ?_
 .skip;rcases isb H1 with ⟨c3,H1⟩|⟨c3,H1⟩;rotate_left
  .skip;repeat apply d6
   refine rk [4,5,6,7,8,50] [] (f2 hh c3) fun h hh=>?_;cases H1;exact ce hh ⟨kq hh,rfl⟩
  rcases isb H1 with ⟨c4,H1⟩|⟨c4,H1⟩;rotate_left
  .skip;repeat apply d6
   refine rk [4,5,6,7,8,50] [] (f3 hh c3 c4) fun h hh=>?_;cases H1;exact ce hh ⟨kq hh,rfl⟩
  rcases isp H1 with ⟨c5,H1⟩|⟨c5,H1⟩;rotate_left
  .skip;repeat apply d6
   refine rk [4,5,6,7,8,50] [] (f3 hh c3 (f2 c4 (zAb c5))) fun h hh=>?_;cases H1;exact ce hh ⟨kq hh,rfl⟩
  repeat apply d6
  refine rk [4,5,6,7,8,50] [] (f3 hh c3 (f2 c4 (zAa c5))) fun h hh=>?_;cases H1;exact ce hh ⟨kq hh,rfl⟩
 clear hh h;rintro h bs ⟨hh,rfl⟩;rcases isb H with ⟨c6,H⟩|⟨c6,H⟩;rotate_left
 .skip;repeat apply d6
  refine cf (f2 hh c6) ?_;repeat apply d6
  refine sk ?_;obtain ⟨af,e7,H⟩:=zad H;repeat apply d6
  refine rkc [4,5,6,7,8,13,14] [] [(.tup [zg9 af.1,.int .i64 af.2],stL [.cells true 3 [zax n.nodes,zay n.links,zaz n.edges],.cells true 3 [.int .i64 c.version,zau c.tables,zat c.steps],.cells true 6 [.int .i64 m_.node,.int .i64 m_.port,.int .i64 m_.tag,.int .i64 m_.out,.int .i64 m_.back,.int .i64 m_.first],.cells true 10 (h_.l.map (d7 .i64))])] (f3 hh c6 (ti54 ax)) ?_ ?_
  .exact ⟨ff (gq (z3m ax hx k n c m_ af e7 ) (by first|rfl|simp only [c6])),trivial⟩
  clear hh h;intro h hh;obtain ⟨s_2,H1,H⟩:=zad H;repeat apply d6
  refine cu [4,5,6,7,8,13,14,69] 5 (fun h bs=>(h 4=.int .i64 node/\h 5=.ptr 0 0 3/\h 6=.ptr 1 0 3/\h 7=.ptr 2 0 6/\h 8=.ptr 3 0 10/\h 13=.ptr 4 0 3/\h 14=.int .i64 af.2/\h 69=.bool s_2)/\bs=[.cells true 3 [zax n.nodes,zay n.links,zaz n.edges],.cells true 3 [.int .i64 c.version,zau c.tables,zat c.steps],.cells true 6 [.int .i64 m_.node,.int .i64 m_.port,.int .i64 m_.tag,.int .i64 m_.out,.int .i64 m_.back,.int .i64 m_.first],.cells true 10 (h_.l.map (d7 .i64)),.cells true 3 [.int .i64 af.1.version,zau af.1.tables,zat af.1.steps]]) ?_ ?_
  .skip;rcases isp H1 with ⟨c8,H1⟩|⟨c8,H1⟩;rotate_left
   .skip;repeat apply d6
    refine rk [4,5,6,7,8,13,14,69] [] (f3 hh (zAb c8) c6) fun h hh=>?_;cases H1;exact ce hh ⟨kq hh,rfl⟩
   repeat apply d6
   refine rk [4,5,6,7,8,13,14,69] [] (f3 hh (zAa c8) c6) fun h hh=>?_;cases H1;exact ce hh ⟨kq hh,rfl⟩
  clear hh h;rintro h bs ⟨hh,rfl⟩;rcases isb H with ⟨c9,H⟩|⟨c9,H⟩;rotate_left
  .skip;repeat apply d6
   refine cf (f2 hh c9) ?_;repeat apply d6
   refine sk ?_;obtain ⟨g10,H⟩:=isg H;obtain ⟨ag,e11,H⟩:=zad H;repeat apply d6
   refine dk 10 [4,5,6,7,8,13,15] [] [] [(ints ag,stL [.cells true 3 [zax n.nodes,zay n.links,zaz n.edges],.cells true 3 [.int .i64 c.version,zau c.tables,zat c.steps],.cells true 6 [.int .i64 m_.node,.int .i64 m_.port,.int .i64 m_.tag,.int .i64 m_.out,.int .i64 m_.back,.int .i64 m_.first],.cells true 10 (h_.l.map (d7 .i64)),.cells true 3 [.int .i64 af.1.version,zau af.1.tables,zat af.1.steps]])] (f3 hh c6 (f3 c9 (zah g10) (f3 (zgl ax) (ybb ax) (yio ax)))) trivial ?_ ?_
   .exact ⟨ff (gq (z1c ax hx k (gx c.tables m_.node) m_.port m_.tag ag e11 ) (by first|rfl|simp only [c6,c9])),trivial⟩
   clear hh h;intro h hh;obtain ⟨ah,e12,H⟩:=zad H;repeat apply d6
   refine rkp [4,5,6,7,8,13,15,16] [] [zas ah] (f3 hh c6 (f3 c9 (zah g10) (zgl ax))) ?_ ?_
   .exact ⟨ff (gq (zuz ax hx k (gx c.tables m_.node) ag ah e12 ) (by first|rfl|simp only [c6,c9])),trivial⟩
   clear hh h;intro h hh;obtain ⟨g13,H⟩:=isg H;repeat apply d6
   refine rk [4,5,6,7,8,13,15,16,17] [] (f3 hh c6 (f3 c9 (zah g13) (zn2 ax))) fun h hh=>?_;obtain ⟨s_3,H1,H⟩:=zad H;repeat apply d6
   refine cu [4,5,6,7,8,13,16,17,140] 5 (fun h bs=>(h 4=.int .i64 node/\h 5=.ptr 0 0 3/\h 6=.ptr 1 0 3/\h 7=.ptr 2 0 6/\h 8=.ptr 3 0 10/\h 13=.ptr 4 0 3/\h 16=zas ah/\h 17=.int .i64 ((gx n.links m_.out).to)/\h 140=.bool s_3)/\bs=[.cells true 3 [zax n.nodes,zay n.links,zaz n.edges],.cells true 3 [.int .i64 c.version,zau c.tables,zat c.steps],.cells true 6 [.int .i64 m_.node,.int .i64 m_.port,.int .i64 m_.tag,.int .i64 m_.out,.int .i64 m_.back,.int .i64 m_.first],.cells true 10 (h_.l.map (d7 .i64)),.cells true 3 [.int .i64 af.1.version,zau af.1.tables,zat af.1.steps]]) ?_ ?_
   .skip;obtain ⟨g14,H1⟩:=isg H1;rcases isp H1 with ⟨c15,H1⟩|⟨c15,H1⟩;rotate_left
    .skip;obtain ⟨g16,H1⟩:=isg H1;obtain ⟨g17,H1⟩:=isg H1;repeat apply d6
     refine dk 37 [4,5,6,7,8,13,16,17,140] [] [] [] (f3 hh (zAb c15) (f3 c6 c9 (f3 (zah g14) (zah g10) (f3 (zah g16) (zah g17) (zgl ax))))) trivial trivial fun h hh=>?_;cases H1;exact ce hh ⟨kq hh,rfl⟩
    repeat apply d6
    refine dk 37 [4,5,6,7,8,13,16,17,140] [] [] [] (f3 hh (zAa c15) (f3 c6 c9 (f3 (zah g14) (zah g10) (zgl ax)))) trivial trivial fun h hh=>?_;cases H1;exact ce hh ⟨kq hh,rfl⟩
   clear hh h;rintro h bs ⟨hh,rfl⟩;rcases isb H with ⟨c18,H⟩|⟨c18,H⟩;rotate_left
   .skip;repeat apply d6
    refine cf (f2 hh c18) ?_;repeat apply d6
    refine sk ?_;obtain ⟨s_4,H1,H⟩:=zad H;repeat apply d6
    refine cu [4,5,6,7,8,13,17,18] 5 (fun h bs=>(h 4=.int .i64 node/\h 5=.ptr 0 0 3/\h 6=.ptr 1 0 3/\h 7=.ptr 2 0 6/\h 8=.ptr 3 0 10/\h 13=.ptr 4 0 3/\h 17=.int .i64 ((gx n.links m_.out).to)/\h 18=.bool s_4)/\bs=[.cells true 3 [zax n.nodes,zay n.links,zaz n.edges],.cells true 3 [.int .i64 c.version,zau c.tables,zat c.steps],.cells true 6 [.int .i64 m_.node,.int .i64 m_.port,.int .i64 m_.tag,.int .i64 m_.out,.int .i64 m_.back,.int .i64 m_.first],.cells true 10 (h_.l.map (d7 .i64)),.cells true 3 [.int .i64 af.1.version,zau af.1.tables,zat af.1.steps]]) ?_ ?_
    .skip;rcases isp H1 with ⟨c19,H1⟩|⟨c19,H1⟩;rotate_left
     .skip;rcases isp H1 with ⟨c31,H1⟩|⟨c31,H1⟩;rotate_left
      .skip;repeat apply d6
       refine rk [4,5,6,7,8,13,17,18] [] (f3 hh (zAb c19) (f3 (zAb c31) c6 (f3 c9 c18 (zgl ax)))) fun h hh=>?_;cases H1;exact ce hh ⟨kq hh,rfl⟩
      obtain ⟨g32,H1⟩:=isg H1;rcases isp H1 with ⟨c33,H1⟩|⟨c33,H1⟩;rotate_left
      .skip;repeat apply d6
       refine rk [4,5,6,7,8,13,17,18] [] (f3 hh (zAb c19) (f3 (zAa c31) (zAb c33) (f3 c6 c9 (f3 c18 (arIx h_ g32) (f2 (zgl ax) (zpp ax)))))) fun h hh=>?_;cases H1;exact ce hh ⟨kq hh,rfl⟩
      obtain ⟨g34,H1⟩:=isg H1;rcases isp H1 with ⟨c35,H1⟩|⟨c35,H1⟩;rotate_left
      .skip;repeat apply d6
       refine rk [4,5,6,7,8,13,17,18] [] (f3 hh (zAb c19) (f3 (zAa c31) (zAa c33) (f3 (zAb c35) c6 (f3 c9 c18 (f3 (arIx h_ g32) (arIx h_ g34) (f3 (zgl ax) (zpp ax) (zro ax))))))) fun h hh=>?_;cases H1;exact ce hh ⟨kq hh,rfl⟩
      repeat apply d6
      refine rk [4,5,6,7,8,13,17,18] [] (f3 hh (zAb c19) (f3 (zAa c31) (zAa c33) (f3 (zAa c35) c6 (f3 c9 c18 (f3 (arIx h_ g32) (arIx h_ g34) (f3 (zgl ax) (zpp ax) (zro ax))))))) fun h hh=>?_;cases H1;exact ce hh ⟨kq hh,rfl⟩
     obtain ⟨g20,H1⟩:=isg H1;rcases isp H1 with ⟨c21,H1⟩|⟨c21,H1⟩;rotate_left
     .skip;rcases isp H1 with ⟨c27,H1⟩|⟨c27,H1⟩;rotate_left
      .skip;repeat apply d6
       refine rk [4,5,6,7,8,13,17,18] [] (f3 hh (zAa c19) (f3 (zAb c21) (zAb c27) (f3 c6 c9 (f3 c18 (arIx h_ g20) (f2 (zgl ax) (zn2 ax)))))) fun h hh=>?_;cases H1;exact ce hh ⟨kq hh,rfl⟩
      rcases isp H1 with ⟨c28,H1⟩|⟨c28,H1⟩;rotate_left
      .skip;repeat apply d6
       refine rk [4,5,6,7,8,13,17,18] [] (f3 hh (zAa c19) (f3 (zAb c21) (zAa c27) (f3 (zAb c28) c6 (f3 c9 c18 (f3 (arIx h_ g20) (zgl ax) (f2 (zn2 ax) (zpp ax))))))) fun h hh=>?_;cases H1;exact ce hh ⟨kq hh,rfl⟩
      obtain ⟨g29,H1⟩:=isg H1;rcases isp H1 with ⟨c30,H1⟩|⟨c30,H1⟩;rotate_left
      .skip;repeat apply d6
       refine rk [4,5,6,7,8,13,17,18] [] (f3 hh (zAa c19) (f3 (zAb c21) (zAa c27) (f3 (zAa c28) (zAb c30) (f3 c6 c9 (f3 c18 (arIx h_ g20) (f3 (arIx h_ g29) (zgl ax) (f3 (zn2 ax) (zpp ax) (zro ax)))))))) fun h hh=>?_;cases H1;exact ce hh ⟨kq hh,rfl⟩
      repeat apply d6
      refine rk [4,5,6,7,8,13,17,18] [] (f3 hh (zAa c19) (f3 (zAb c21) (zAa c27) (f3 (zAa c28) (zAa c30) (f3 c6 c9 (f3 c18 (arIx h_ g20) (f3 (arIx h_ g29) (zgl ax) (f3 (zn2 ax) (zpp ax) (zro ax)))))))) fun h hh=>?_;cases H1;exact ce hh ⟨kq hh,rfl⟩
     obtain ⟨g22,H1⟩:=isg H1;rcases isp H1 with ⟨c23,H1⟩|⟨c23,H1⟩;rotate_left
     .skip;rcases isp H1 with ⟨c24,H1⟩|⟨c24,H1⟩;rotate_left
      .skip;repeat apply d6
       refine rk [4,5,6,7,8,13,17,18] [] (f3 hh (zAa c19) (f3 (zAa c21) (zAb c23) (f3 (zAb c24) c6 (f3 c9 c18 (f3 (arIx h_ g20) (arIx h_ g22) (f3 (zgl ax) (zn2 ax) (zro ax))))))) fun h hh=>?_;cases H1;exact ce hh ⟨kq hh,rfl⟩
      rcases isp H1 with ⟨c25,H1⟩|⟨c25,H1⟩;rotate_left
      .skip;repeat apply d6
       refine rk [4,5,6,7,8,13,17,18] [] (f3 hh (zAa c19) (f3 (zAa c21) (zAb c23) (f3 (zAa c24) (zAb c25) (f3 c6 c9 (f3 c18 (arIx h_ g20) (f3 (arIx h_ g22) (zgl ax) (f3 (zn2 ax) (zpp ax) (zro ax)))))))) fun h hh=>?_;cases H1;exact ce hh ⟨kq hh,rfl⟩
      rcases isp H1 with ⟨c26,H1⟩|⟨c26,H1⟩;rotate_left
      .skip;repeat apply d6
       refine rk [4,5,6,7,8,13,17,18] [] (f3 hh (zAa c19) (f3 (zAa c21) (zAb c23) (f3 (zAa c24) (zAa c25) (f3 (zAb c26) c6 (f3 c9 c18 (f3 (arIx h_ g20) (arIx h_ g22) (f3 (zgl ax) (zn2 ax) (f2 (zpp ax) (zro ax))))))))) fun h hh=>?_;cases H1;exact ce hh ⟨kq hh,rfl⟩
      repeat apply d6
      refine rk [4,5,6,7,8,13,17,18] [] (f3 hh (zAa c19) (f3 (zAa c21) (zAb c23) (f3 (zAa c24) (zAa c25) (f3 (zAa c26) c6 (f3 c9 c18 (f3 (arIx h_ g20) (arIx h_ g22) (f3 (zgl ax) (zn2 ax) (f2 (zpp ax) (zro ax))))))))) fun h hh=>?_;cases H1;exact ce hh ⟨kq hh,rfl⟩
     repeat apply d6
     refine rk [4,5,6,7,8,13,17,18] [] (f3 hh (zAa c19) (f3 (zAa c21) (zAa c23) (f3 c6 c9 (f3 c18 (arIx h_ g20) (f3 (arIx h_ g22) (zn2 ax) (zro ax)))))) fun h hh=>?_;cases H1;exact ce hh ⟨kq hh,rfl⟩
    clear hh h;rintro h bs ⟨hh,rfl⟩;obtain ⟨s_5,H1,H⟩:=zad H;repeat apply d6
    refine cu [4,5,6,7,8,13,17,209] 5 (fun h bs=>(h 4=.int .i64 node/\h 5=.ptr 0 0 3/\h 6=.ptr 1 0 3/\h 7=.ptr 2 0 6/\h 8=.ptr 3 0 10/\h 13=.ptr 4 0 3/\h 17=.int .i64 ((gx n.links m_.out).to)/\h 209=.bool s_5)/\bs=[.cells true 3 [zax n.nodes,zay n.links,zaz n.edges],.cells true 3 [.int .i64 c.version,zau c.tables,zat c.steps],.cells true 6 [.int .i64 m_.node,.int .i64 m_.port,.int .i64 m_.tag,.int .i64 m_.out,.int .i64 m_.back,.int .i64 m_.first],.cells true 10 (h_.l.map (d7 .i64)),.cells true 3 [.int .i64 af.1.version,zau af.1.tables,zat af.1.steps]]) ?_ ?_
    .skip;rcases isb H1 with ⟨c36,H1⟩|⟨c36,H1⟩;rotate_left
     .skip;rcases isp H1 with ⟨c37,H1⟩|⟨c37,H1⟩;rotate_left
      .skip;obtain ⟨g38,H1⟩:=isg H1;rcases isp H1 with ⟨c39,H1⟩|⟨c39,H1⟩;rotate_left
       .skip;obtain ⟨g40,H1⟩:=isg H1;repeat apply d6
        refine rk [4,5,6,7,8,13,17,209] [] (f3 hh c36 (f3 (zAb c37) (zAb c39) (f3 c6 c9 (f3 c18 (arIx h_ g38) (f3 (arIx h_ g40) (zgl ax) (f2 (ybb ax) (yio ax))))))) fun h hh=>?_;cases H1;exact ce hh ⟨kq hh,rfl⟩
       repeat apply d6
       refine rk [4,5,6,7,8,13,17,209] [] (f3 hh c36 (f3 (zAb c37) (zAa c39) (f3 c6 c9 (f3 c18 (arIx h_ g38) (f2 (zgl ax) (ybb ax)))))) fun h hh=>?_;cases H1;exact ce hh ⟨kq hh,rfl⟩
      repeat apply d6
      refine rk [4,5,6,7,8,13,17,209] [] (f3 hh c36 (f3 (zAa c37) c6 (f3 c9 c18 (zgl ax)))) fun h hh=>?_;cases H1;exact ce hh ⟨kq hh,rfl⟩
     repeat apply d6
     refine rk [4,5,6,7,8,13,17,209] [] (f3 hh c36 (f3 c6 c9 c18)) fun h hh=>?_;cases H1;exact ce hh ⟨kq hh,rfl⟩
    clear hh h;rintro h bs ⟨hh,rfl⟩;obtain ⟨o,H1,H⟩:=zad H;repeat apply d6
    refine cu [5,6,7,8,13,17] 5 (fun h bs=>∃ s_6:Unit,o=.inr s_6/\(h 5=.ptr 0 0 3/\h 6=.ptr 1 0 3/\h 7=.ptr 2 0 6/\h 8=.ptr 3 0 10/\h 13=.ptr 4 0 3/\h 17=.int .i64 ((gx n.links m_.out).to))/\bs=[.cells true 3 [zax n.nodes,zay n.links,zaz n.edges],.cells true 3 [.int .i64 c.version,zau c.tables,zat c.steps],.cells true 6 [.int .i64 m_.node,.int .i64 m_.port,.int .i64 m_.tag,.int .i64 m_.out,.int .i64 m_.back,.int .i64 m_.first],.cells true 10 (h_.l.map (d7 .i64)),.cells true 3 [.int .i64 af.1.version,zau af.1.tables,zat af.1.steps]]) ?_ ?_
    .skip;rcases isb H1 with ⟨c41,H1⟩|⟨c41,H1⟩;rotate_left
     .skip;repeat apply d6
      refine cf (f2 hh c41) ?_;repeat apply d6
      refine sk ?_;cases H1;exact ce hh ⟨_,rfl,kq hh,rfl⟩
     repeat apply d6
     refine ct (f2 hh c41) ?_;obtain ⟨bw,e42,H1⟩:=zad H1;repeat apply d6
     refine rkp [4,5,6,7,8,13,17,19,20] [] [.tup [zlw bw.1,.int .i64 bw.2]] (f3 hh c6 (f3 c9 c18 c41)) ?_ ?_
     .exact ⟨ff (gq (zge ax hx k n c node h_ bw e42 ) (by first|rfl|simp only [c6,c9,c18,c41])),trivial⟩
     clear hh h;intro h hh;obtain ⟨bz,e43,H1⟩:=zad H1;repeat apply d6
     refine rkp [5,6,7,8,13,17,19,20,21,22] [] [.tup [zlw bz.1,.int .i64 bz.2]] (f3 hh c6 (f3 c9 c18 c41)) ?_ ?_
     .exact ⟨ff (gq (zge ax hx k n af.1 node h_ bz e43 ) (by first|rfl|simp only [c6,c9,c18,c41])),trivial⟩
     clear hh h;intro h hh;obtain ⟨cg,e44,H1⟩:=zad H1;rcases isb H1 with ⟨c45,H1⟩|⟨c45,H1⟩;rotate_left
     .skip;repeat apply d6
      refine rkp [5,6,7,8,13,17,234] [] [.bool cg] (f3 hh c45 (f3 c6 c9 (f2 c18 c41))) ?_ ?_
      .exact ⟨ff (gq (zhy ax hx k bw.1 bz.1 cg e44 ) (by first|rfl|simp only [c6,c9,c18,c41,c45])),trivial⟩
      clear hh h;intro h hh;repeat apply d6
      refine ct hh ?_;repeat apply d6
      refine rk [10] [] (f3 hh c6 (f3 c9 c18 (f2 c41 c45))) fun h hh=>?_;cases H1;obtain rfl:=sinl H;exact rt hh
     repeat apply d6
     refine rkp [5,6,7,8,13,17,234] [] [.bool cg] (f3 hh c45 (f3 c6 c9 (f2 c18 c41))) ?_ ?_
     .exact ⟨ff (gq (zhy ax hx k bw.1 bz.1 cg e44 ) (by first|rfl|simp only [c6,c9,c18,c41,c45])),trivial⟩
     clear hh h;intro h hh;rcases isp H1 with ⟨c46,H1⟩|⟨c46,H1⟩;rotate_left
     .skip;repeat apply d6
      refine cf (f2 hh (zAb c46)) ?_;repeat apply d6
      refine sk ?_;cases H1;exact ce hh ⟨_,rfl,kq hh,rfl⟩
     repeat apply d6
     refine ct (f2 hh (zAa c46)) ?_;repeat apply d6
     refine rk [10] [] (f3 hh c6 (f3 c9 c18 (f2 c41 c45))) fun h hh=>?_;cases H1;obtain rfl:=sinl H;exact rt hh
    clear hh h;rintro h bs ⟨s_6,rfl,hh,rfl⟩;replace H:=sinr H;obtain ⟨g47,H⟩:=isg H;repeat apply d6
    refine rk [5,6,7,8,13,17] [] (f3 hh c6 (f3 c9 c18 (f2 (yjx (k:=.i64) h_ m_.port g47) (ybb ax)))) fun h hh=>?_;obtain ⟨g48,H⟩:=isg H;repeat apply d6
    refine rk [5,6,7,8,13,17] [] (f3 hh c6 (f3 c9 c18 (f2 (yjx (k:=.i64) (h_.set 0 m_.port) m_.tag g48) (yio ax)))) fun h hh=>?_;obtain ⟨ar,e49,H⟩:=zad H;repeat apply d6
    refine rkp [5,7,8,13,17,23,24] [] [.tup [zlw ar.1,.int .i64 ar.2]] (f3 hh c6 (f3 c9 c18 (zgl ax))) ?_ ?_
    .exact ⟨ff (gq (zge ax hx k n c m_.node ((h_.set 0 m_.port).set 9 m_.tag) ar e49 ) (by first|rfl|simp only [c6,c9,c18])),trivial⟩
    clear hh h;intro h hh;obtain ⟨ay,e50,H⟩:=zad H;repeat apply d6
    refine rkp [5,7,13,17,23,24,25,26] [] [.tup [zlw ay.1,.int .i64 ay.2]] (f3 hh c6 (f3 c9 c18 (zgl ax))) ?_ ?_
    .exact ⟨ff (gq (zge ax hx k n af.1 m_.node ((h_.set 0 m_.port).set 9 m_.tag) ay e50 ) (by first|rfl|simp only [c6,c9,c18])),trivial⟩
    clear hh h;intro h hh;obtain ⟨s_7,H1,H⟩:=zad H;repeat apply d6
    refine cu [5,7,13,17,23,24,25,274] 5 (fun h bs=>(h 5=.ptr 0 0 3/\h 7=.ptr 2 0 6/\h 13=.ptr 4 0 3/\h 17=.int .i64 ((gx n.links m_.out).to)/\h 23=zlw ar.1/\h 24=.int .i64 ar.2/\h 25=zlw ay.1/\h 274=.bool s_7)/\bs=[.cells true 3 [zax n.nodes,zay n.links,zaz n.edges],.cells true 3 [.int .i64 c.version,zau c.tables,zat c.steps],.cells true 6 [.int .i64 m_.node,.int .i64 m_.port,.int .i64 m_.tag,.int .i64 m_.out,.int .i64 m_.back,.int .i64 m_.first],.cells true 10 (((h_.set 0 m_.port).set 9 m_.tag).l.map (d7 .i64)),.cells true 3 [.int .i64 af.1.version,zau af.1.tables,zat af.1.steps]]) ?_ ?_
    .skip;rcases isp H1 with ⟨c51,H1⟩|⟨c51,H1⟩;rotate_left
     .skip;rcases isp H1 with ⟨c52,H1⟩|⟨c52,H1⟩;rotate_left
      .skip;obtain ⟨g53,H1⟩:=isg H1;repeat apply d6
       refine dk 14 [5,7,13,17,23,24,25,274] [] [] [] (f3 hh (zAb c51) (f3 (zAb c52) c6 (f3 c9 c18 (f3 (zah g53) (arCp (k:=.i64) (gx ay.1 0) g47) (f2 (zn2 ax) (ti66 ax)))))) trivial trivial fun h hh=>?_;cases H1;exact ce hh ⟨kq hh,rfl⟩
      repeat apply d6
      refine dk 14 [5,7,13,17,23,24,25,274] [] [] [] (f3 hh (zAb c51) (f3 (zAa c52) c6 (f3 c9 c18 (ti66 ax)))) trivial trivial fun h hh=>?_;cases H1;exact ce hh ⟨kq hh,rfl⟩
     repeat apply d6
     refine dk 14 [5,7,13,17,23,24,25,274] [] [] [] (f3 hh (zAa c51) (f3 c6 c9 (f2 c18 (ti66 ax)))) trivial trivial fun h hh=>?_;cases H1;exact ce hh ⟨kq hh,rfl⟩
    clear hh h;rintro h bs ⟨hh,rfl⟩;rcases isb H with ⟨c54,H⟩|⟨c54,H⟩;rotate_left
    .skip;repeat apply d6
     refine cf (f2 hh c54) ?_;repeat apply d6
     refine sk ?_;obtain ⟨g55,H⟩:=isg H;obtain ⟨au,e56,H⟩:=zad H;repeat apply d6
     refine dk 6 [5,7,13,23,24,26,27] [] [] [(.tup [zlw au.1,.int .i64 au.2],stL [.cells true 3 [zax n.nodes,zay n.links,zaz n.edges],.cells true 3 [.int .i64 c.version,zau c.tables,zat c.steps],.cells true 6 [.int .i64 m_.node,.int .i64 m_.port,.int .i64 m_.tag,.int .i64 m_.out,.int .i64 m_.back,.int .i64 m_.first],.cells true 10 (((h_.set 0 m_.port).set 9 m_.tag).l.map (d7 .i64)),.cells true 3 [.int .i64 af.1.version,zau af.1.tables,zat af.1.steps]])] (f3 hh c6 (f3 c9 c18 (f3 c54 (zah g55) (ti66 ax)))) trivial ?_ ?_
     .exact ⟨ff (gq (zge ax hx k n af.1 ((gx n.links m_.out).to) (gx ay.1 0) au e56 ) (by first|rfl|simp only [c6,c9,c18,c54])),trivial⟩
     clear hh h;intro h hh;repeat apply d6
     refine rk [5,7,13,23,24,26,27,287] [] (f3 hh c6 (f3 c9 c18 (f2 c54 (ti66 ax)))) fun h hh=>?_;rcases isp H with ⟨c57,H⟩|⟨c57,H⟩;rotate_left
     .skip;repeat apply d6
      refine cf (f2 hh (zAb c57)) ?_;repeat apply d6
      refine sk ?_;obtain ⟨s_9,H1,H⟩:=zad H;repeat apply d6
      refine cu [5,7,13,23,24,27,313] 5 (fun h bs=>(h 5=.ptr 0 0 3/\h 7=.ptr 2 0 6/\h 13=.ptr 4 0 3/\h 23=zlw ar.1/\h 24=.int .i64 ar.2/\h 27=zlw au.1/\h 313=.bool s_9)/\bs=[.cells true 3 [zax n.nodes,zay n.links,zaz n.edges],.cells true 3 [.int .i64 c.version,zau c.tables,zat c.steps],.cells true 6 [.int .i64 m_.node,.int .i64 m_.port,.int .i64 m_.tag,.int .i64 m_.out,.int .i64 m_.back,.int .i64 m_.first],.cells true 10 (((h_.set 0 m_.port).set 9 m_.tag).l.map (d7 .i64)),.cells true 3 [.int .i64 af.1.version,zau af.1.tables,zat af.1.steps]]) ?_ ?_
      .skip;rcases isp H1 with ⟨c59,H1⟩|⟨c59,H1⟩;rotate_left
       .skip;rcases isp H1 with ⟨c60,H1⟩|⟨c60,H1⟩;rotate_left
        .skip;obtain ⟨g61,H1⟩:=isg H1;repeat apply d6
         refine dk 14 [5,7,13,23,24,27,313] [] [] [] (f3 hh (zAb c59) (f3 (zAb c60) c6 (f3 c9 c18 (f3 c54 (zah g61) (f3 (arCp (k:=.i64) (gx au.1 0) g47) (zpp ax) (ti66 ax)))))) trivial trivial fun h hh=>?_;cases H1;exact ce hh ⟨kq hh,rfl⟩
        repeat apply d6
        refine dk 14 [5,7,13,23,24,27,313] [] [] [] (f3 hh (zAb c59) (f3 (zAa c60) c6 (f3 c9 c18 (f2 c54 (ti66 ax))))) trivial trivial fun h hh=>?_;cases H1;exact ce hh ⟨kq hh,rfl⟩
       repeat apply d6
       refine dk 14 [5,7,13,23,24,27,313] [] [] [] (f3 hh (zAa c59) (f3 c6 c9 (f3 c18 c54 (ti66 ax)))) trivial trivial fun h hh=>?_;cases H1;exact ce hh ⟨kq hh,rfl⟩
      clear hh h;rintro h bs ⟨hh,rfl⟩;rcases isb H with ⟨c62,H⟩|⟨c62,H⟩;rotate_left
      .skip;repeat apply d6
       refine cf (f2 hh c62) ?_;repeat apply d6
       refine sk ?_;obtain ⟨g63,H⟩:=isg H;obtain ⟨b9,e64,H⟩:=zad H;repeat apply d6
       refine dk 7 [23,24,26,28] [] [] [(.tup [zlw b9.1,.int .i64 b9.2],stL [.cells true 3 [zax n.nodes,zay n.links,zaz n.edges],.cells true 3 [.int .i64 c.version,zau c.tables,zat c.steps],.cells true 6 [.int .i64 m_.node,.int .i64 m_.port,.int .i64 m_.tag,.int .i64 m_.out,.int .i64 m_.back,.int .i64 m_.first],.cells true 10 (((h_.set 0 m_.port).set 9 m_.tag).l.map (d7 .i64)),.cells true 3 [.int .i64 af.1.version,zau af.1.tables,zat af.1.steps]])] (f3 hh c6 (f3 c9 c18 (f3 c54 c62 (f3 (zah g63) (zgl ax) (ti66 ax))))) trivial ?_ ?_
       .exact ⟨ff (gq (zge ax hx k n af.1 m_.node (gx au.1 0) b9 e64 ) (by first|rfl|simp only [c6,c9,c18,c54,c62])),trivial⟩
       clear hh h;intro h hh;obtain ⟨ci,e65,H⟩:=zad H;rcases isb H with ⟨c66,H⟩|⟨c66,H⟩;rotate_left
       .skip;repeat apply d6
        refine rkp [10] [] [.bool true,.bool ci] (f3 hh c66 (f3 c6 c9 (f3 c18 c54 c62))) ?_ ?_
        .exact ⟨ff (gq hx.san (by first|rfl|simp only [c6,c9,c18,c54,c62,c66])),ff (gq (zhy ax hx k b9.1 ar.1 ci e65 ) (by first|rfl|simp only [c6,c9,c18,c54,c62,c66])),trivial⟩
        clear hh h;intro h hh;cases H;exact rt hh
       repeat apply d6
       refine rkp [10] [] [.bool true,.bool ci] (f3 hh c66 (f3 c6 c9 (f3 c18 c54 c62))) ?_ ?_
       .exact ⟨ff (gq hx.san (by first|rfl|simp only [c6,c9,c18,c54,c62,c66])),ff (gq (zhy ax hx k b9.1 ar.1 ci e65 ) (by first|rfl|simp only [c6,c9,c18,c54,c62,c66])),trivial⟩
       clear hh h;intro h hh;cases H;exact rt hh
      repeat apply d6
      refine ct (f2 hh c62) ?_;repeat apply d6
      refine rk [10] [] (f3 hh c6 (f3 c9 c18 (f2 c54 c62))) fun h hh=>?_;cases H;exact rt hh
     repeat apply d6
     refine ct (f2 hh (zAa c57)) ?_;obtain ⟨s_8,H1,H⟩:=zad H;repeat apply d6
     refine cu [10] 5 (fun h bs=>(h 10=.bool s_8)/\bs=[.cells true 3 [zax n.nodes,zay n.links,zaz n.edges],.cells true 3 [.int .i64 c.version,zau c.tables,zat c.steps],.cells true 6 [.int .i64 m_.node,.int .i64 m_.port,.int .i64 m_.tag,.int .i64 m_.out,.int .i64 m_.back,.int .i64 m_.first],.cells true 10 (((h_.set 0 m_.port).set 9 m_.tag).l.map (d7 .i64)),.cells true 3 [.int .i64 af.1.version,zau af.1.tables,zat af.1.steps]]) ?_ ?_
     .skip;rcases isp H1 with ⟨c58,H1⟩|⟨c58,H1⟩;rotate_left
      .skip;repeat apply d6
       refine rkp [10] [] [.bool true] (f3 hh (zAb c58) (f3 c6 c9 (f3 c18 c54 (ti66 ax)))) ?_ ?_
       .exact ⟨ff (gq hx.san (by first|rfl|simp only [c6,c9,c18,c54])),trivial⟩
       clear hh h;intro h hh;cases H1;exact ce hh ⟨kq hh,rfl⟩
      repeat apply d6
      refine rkp [10] [] [.bool true] (f3 hh (zAa c58) (f3 c6 c9 (f3 c18 c54 (ti66 ax)))) ?_ ?_
      .exact ⟨ff (gq hx.san (by first|rfl|simp only [c6,c9,c18,c54])),trivial⟩
      clear hh h;intro h hh;cases H1;exact ce hh ⟨kq hh,rfl⟩
     clear hh h;rintro h bs ⟨hh,rfl⟩;cases H;exact rt hh
    repeat apply d6
    refine ct (f2 hh c54) ?_;repeat apply d6
    refine rk [10] [] (f3 hh c6 (f3 c9 c18 c54)) fun h hh=>?_;cases H;exact rt hh
   repeat apply d6
   refine ct (f2 hh c18) ?_;repeat apply d6
   refine rk [10] [] (f3 hh c6 (f2 c9 c18)) fun h hh=>?_;cases H;exact rt hh
  repeat apply d6
  refine ct (f2 hh c9) ?_;repeat apply d6
  refine rkp [10] [] [.bool true] (f3 hh c6 c9) ?_ ?_
  .exact ⟨ff (gq hx.san (by first|rfl|simp only [c6,c9])),trivial⟩
  clear hh h;intro h hh;cases H;exact rt hh
 repeat apply d6
 refine ct (f2 hh c6) ?_;repeat apply d6
 refine rkp [10] [] [.bool true] (f2 hh c6) ?_ ?_
 .exact ⟨ff (gq hx.san (by first|rfl|simp only [c6])),trivial⟩
 clear hh h;intro h hh;cases H;exact rt hh
def put (s:Spot) (h:Ar 10):Ar 10:=(h.set 0 s.port).set 9 s.tag
def atS (s:Spot) (h:Ar 10):Prop:=gx h.l 0=s.port/\gx h.l 9=s.tag
theorem zk2 (s:Spot) (h:Ar 10) {j:Nat} (hj:j<10):gx (put s h).l (j:Int)=if j=9 then s.tag else if j=0 then s.port else gx h.l (j:Int):=by
  unfold put;by_cases j9:j=9
  . rw [zAc j9];subst j9;exact zf8 (i:=9) s.tag (by omega)
  . rw [zAd j9];have e:=zix (a:=h.set 0 s.port) (i:=9) (j:=j) s.tag hj (fun h=>j9 h.symm);have e2:gx ((h.set 0 s.port).set 9 s.tag).l (j:Int)=gx (h.set 0 s.port).l (j:Int):=e;rw [e2];by_cases j0:j=0
    . rw [zAc j0];subst j0;exact zf8 (i:=0) s.port (by omega)
    . rw [zAd j0];exact zix (i:=0) (j:=j) s.port hj (fun h=>j0 h.symm)
theorem zpi (s:Spot) (h:Ar 10):atS s (put s h):=⟨zk2 s h (j:=0) (by omega),zk2 s h (j:=9) (by omega)⟩
theorem z7m (s s2:Spot) (h:Ar 10):put s2 (put s h)=put s2 h:=by
  apply yjw;intro j hj;rw [zk2 s2 (put s h) hj,zk2 s2 h hj];split
  . rfl
  . split
    . rfl
    . next a b=>rw [zk2 _ _ hj,zAd a,zAd b]
theorem yks {s:Spot} {h:Ar 10} (ha:atS s h):put s h=h:=by
  apply yjw;intro j hj;rw [zk2 _ _ hj];split
  . next e=>subst e;exact ha.2.symm
  . split
    . next e=>subst e;exact ha.1.symm
    . rfl
theorem zlp {s:Spot} {h:Ar 10} (hp:zbf s.port=true) (ht:zbf s.tag=true) (hh:zag h=true):zag (put s h)=true:=by
  refine zit fun j hj=>?_;rw [zk2 s h hj];split
  . exact zjr ht
  . split
    . exact zjr hp
    . exact zmh hh hj
theorem zmk (s:Spot) (h:Ar 10) {i:Nat} (hi:i<160):hbit (put s h) i=if i / 16=9 then s.tag.toNat.testBit (15 - i % 16) else if i / 16=0 then s.port.toNat.testBit (15 - i % 16) else hbit h i:=by
  unfold hbit hw;rw [zk2 s h (by omega)];split
  . rfl
  . split<;>rfl
theorem zmd {s:Spot} {h:Ar 10} (ha:atS s h) {i:Nat} (hi:i / 16=0\/i / 16=9):hbit (spP s).bits i=hbit h i:=by
  unfold hbit hw;rcases hi with e|e
  . rw [e];have e1:gx (spP s).bits.l ((0:Nat):Int)=s.port:=by rw [zol];rfl
    have e2:gx h.l ((0:Nat):Int)=s.port:=ha.1;rw [e1,e2]
  . rw [e];have e1:gx (spP s).bits.l ((9:Nat):Int)=s.tag:=by rw [zol];rfl
    have e2:gx h.l ((9:Nat):Int)=s.tag:=ha.2;rw [e1,e2]
theorem zsi {p:Pat} {s:Spot} {h:Ar 10} (hm:zdk p h=true) (ha:atS s h):zkf p (spP s)=true:=by
  rw [zlq];intro i hi h1 h2;rw [zok s hi,decide_eq_true_eq] at h2;rw [zmd ha h2];exact zjs.1 hm i hi h1
theorem znr {s:Spot} {h:Ar 10} (hh:zag h=true) (hp:zbf s.port=true) (ht:zbf s.tag=true):zdk (spP s) h=true↔atS s h:=by
  constructor
  . intro hm;have hw0:=zjs.1 hm;have hb:=(za5.1 (zhx hp ht)).2.1
    have key:∀ j:Nat,j<10->(j=0\/j=9)->gx (spP s).bits.l (j:Int)=gx h.l (j:Int):=by
      intro j hj hj2;obtain ⟨a1,a2⟩:=zc2 hb hj;obtain ⟨b1,b2⟩:=zc2 hh hj;rw [a1,b1,zog a2 b2 fun t ht=>?_];have e:=zxi j t hj ht;rw [<- zg8 _ hj ht,<- zg8 _ hj ht];exact hw0 _ e.2.2 (by rw [zok s e.2.2,e.1];exact zAa hj2)
    have e0:gx (spP s).bits.l ((0:Nat):Int)=s.port:=by rw [zol];rfl
    have e9:gx (spP s).bits.l ((9:Nat):Int)=s.tag:=by rw [zol];rfl
    have k0:=key 0 (by omega) (.inl rfl);have k9:=key 9 (by omega) (.inr rfl);rw [e0] at k0;rw [e9] at k9;exact ⟨k0.symm,k9.symm⟩
  . intro ha;rw [zjs];intro i hi hm;rw [zok s hi,decide_eq_true_eq] at hm;exact zmd ha hm
theorem z6n {s:Spot} {h:Ar 10} (hh:zag h=true) (hp:zbf s.port=true) (ht:zbf s.tag=true):zob (spP s) h=put s h:=by
  refine (zkc (zhx hp ht) hh).uniq ⟨zlp hp ht hh,fun i hi=>?_⟩;rw [zok s hi,zmk s h hi];have ha:=zpi s h;by_cases h9:i / 16=9
  . rw [zAc h9,zAc (zAa (Or.inr h9)),zmd ha (.inr h9),zmk s h hi,zAc h9]
  . by_cases h0:i / 16=0
    . rw [zAd h9,zAc h0,zAc (zAa (Or.inl h0)),zmd ha (.inl h0),zmk s h hi,zAd h9,zAc h0]
    . rw [zAd h9,zAd h0,zAd (by rw [decide_eq_true_eq];exact fun x=>x.elim h0 h9)]
theorem z7v {r:Rule} {s g:Spot} {h:Ar 10} (he:exB r=true) (hs:zdi r=s):zdk ⟨r.mat.mask,(r.mat.bits.set 0 g.port).set 9 g.tag⟩ (put g h)=zdk r.mat (put s h):=by
  have e:((r.mat.bits.set 0 g.port).set 9 g.tag)=put g r.mat.bits:=rfl;have hsp:put s r.mat.bits=r.mat.bits:=yks ⟨by rw [<- hs];rfl,by rw [<- hs];rfl⟩;rw [np,zjs,zjs,e];refine forall_congr' fun i=>forall_congr' fun hi=>forall_congr' fun hm=>?_;show hbit (put g r.mat.bits) i=hbit (put g h) i↔hbit r.mat.bits i=hbit (put s h) i;rw [<- hsp,zmk _ _ hi,zmk _ _ hi,zmk _ _ hi,zmk _ _ hi];by_cases h9:i / 16=9
  . simp only [zAc h9]
  . by_cases h0:i / 16=0
    . simp only [zAd h9,zAc h0]
    . simp only [zAd h9,zAd h0]
/-! what a table does -/
def noF:zfp:=⟨[],-1⟩
def zb9 (t:List Rule) (h:Ar 10):Option Rule:=t.find? fun r=>zdk r.mat h
def zjb (n:Net) (o:Option Rule) (h:Ar 10):List (Ar 10)×Int:=match o with|none=>([],-1)|some r=>(zni n noF r.outs h,r.step)
def ykm (r:Rule):Rule:=⟨0,r.mat,r.step,r.outs⟩
theorem zth (n:Net) (t:List Rule) (h:Ar 10):zjb n (zb9 (t.map ykm) h) h=zjb n (zb9 t h) h:=by
  unfold zb9;rw [List.find?_map];have e:((fun r=>zdk r.mat h) ∘ ykm)=fun r=>zdk r.mat h:=rfl;rw [e];cases t.find? fun r=>zdk r.mat h<;>rfl
theorem zwu (n:Net) (t:List Rule) (h:Ar 10):zjb n (zb9 (numT t) h) h=zjb n (zb9 t h) h:=by
  rw [<- zth,<- zth n t]
  have e:(numT t).map ykm=t.map ykm:=by
    apply List.ext_getElem
    . rw [ek,ek,zkq]
    . intro i h1 h2;rw [l6,l6,zt5 (by simpa using h2)];rfl
  rw [e]
theorem zp2 {a b:List Rule} {h:Ar 10} (hn:∀ r,r∈a->zdk r.mat h=false):zb9 (a++b) h=zb9 b h:=by
  unfold zb9;rw [List.find?_append]
  have:(a.find? fun r=>zdk r.mat h)=none:=by
    rw [List.find?_eq_none];intro r hr;rw [hn r hr];simp
  rw [this];rfl
theorem znk {a b:List Rule} {h:Ar 10} (hn:∀ r,r∈b->zdk r.mat h=false):zb9 (a++b) h=zb9 a h:=by
  unfold zb9;rw [List.find?_append]
  have:(b.find? fun r=>zdk r.mat h)=none:=by
    rw [List.find?_eq_none];intro r hr;rw [hn r hr];simp
  rw [this];cases (a.find? fun r=>zdk r.mat h)<;>rfl
theorem zns {k:Nat} {n:Net} {c:zbc} {node:Int} {h:Ar 10} (hc:znm n c=true) (hno:0<=node/\node<(n.nodes.length:Int)) (hh:zag h=true) (hk:big<=k):zc1 k n c node h=some (zjb n (zb9 (gx c.tables node) h) h):=by
  obtain ⟨h1,h2,h3⟩:=zgg hc;have hno2:0<=node/\node<(c.tables.length:Int):=by rw [h1];exact hno
  obtain ⟨ta,tb⟩:=h3 _ (zm0 hno2);unfold zc1;rw [zAc hno2,ycx _ _ (fun r hr=>zt0 (tb r hr)) hh (by simp only [big];omega) hk,dz];unfold ysm zb9;rcases ya8 (fun r=>zdk r.mat h) (gx c.tables node) with ⟨e1,e2⟩|⟨i,hi,e1,e2⟩
  . rw [e2,e1,zAc (by decide)];rfl
  . rw [e1,e2,zAd (by omega),zAc ⟨by omega,zae hi⟩,zca hi];have e:=ykr (k:=k) n noF (gx c.tables node)[i] h (zsq (tb _ (List.getElem_mem hi))) hh (by decide) hk;have e':zle k n (⟨[],-1⟩:zfp) (⟨(gx c.tables node)[i].prio,(gx c.tables node)[i].mat,(gx c.tables node)[i].step,(gx c.tables node)[i].outs⟩:Rule) h=_:=e;rw [e',dz];rfl
theorem yqa {n:Net} (hn:zh7 n) {a:Alt} (ha:a.link<(n.links.length:Int)):okA n noF a=true:=by
  unfold okA upB;by_cases h:a.link<0
  . rw [zAa h];rfl
  . have h1:=hn.frm a.link.toNat (by omega);have h2:=hn.to a.link.toNat (by omega);have e:gx n.links a.link=n.links.getD a.link.toNat default:=rfl;rw [e,Bool.or_eq_true,d8,d8];refine .inr ⟨zAa ?_,zAa ?_,?_⟩
    . show _≠(-1:Int);omega
    . show _≠(-1:Int);omega
    . show (!decide (a.link∈([]:List Int)))=true;rw [zAb (by simp)];rfl
theorem zph {k:Nat} (a:List (Ar 10)) (hl:a.length<big) (hk:big<=k):zhk k a a=some true:=by
  unfold zhk
  rw [zAd (fun h=>h rfl),zkr (L:=zc7 k a a) a false (fun _=>true) hl (fun m j h=>by
    rw [zc7,zAc (zae h),zAc ⟨by omega,zae h⟩,zAc ⟨by omega,zae h⟩,zAc rfl,zAc rfl]) (fun m=>by rw [zc7,zAd (by omega)]) (Nat.lt_of_lt_of_le hl hk),dz,zAc (by simp)]
  rfl
theorem yap (q:Rule->Bool):∀ (l:List Rule) (i:Int) (j:Nat) (h:j<l.length),q l[j]=true->i+(j:Int)∈idxF q l i
  |r :: l,i,0,h,hq=>by
    have hq2:q r=true:=hq;rw [idxF,zAc hq2];exact List.mem_cons.2 (.inl (by omega))
  |r :: l,i,j+1,h,hq=>by
    have:=yap q l (i+1) j (by simpa using h) hq;have e:i+1+(j:Int)=i+((j+1:Nat):Int):=by omega
    rw [e] at this;rw [idxF];split
    . exact .tail _ this
    . exact this
theorem zyc (q:Rule->Bool) (B:List Int):∀ (l:List Rule) (i:Nat),(∀ (j:Nat) (h:j<l.length),(B.any fun x=>decide (x=((i+j:Nat):Int)))=q l[j])->woL B i l=l.filter fun r=>!q r
  |[],i,h=>rfl
  |r :: l,i,h=>by
    have h0:=h 0 (by simp);simp only [Nat.add_zero,List.getElem_cons_zero] at h0
    have ih:=zyc q B l (i+1) fun j hj=>by
      have:=h (j+1) (by simpa using hj);rw [show i+1+j=i+(j+1) by omega];simpa using this
    rw [woL,h0,oi,ih];cases q r<;>rfl
theorem z0s (q:Rule->Bool) (t:List Rule):woL (idxF q t 0) 0 t=t.filter fun r=>!q r:=by
  refine zyc q _ t 0 fun j h=>?_;rw [f6,np,ky];constructor
  . rintro ⟨x,hx,hxe⟩;obtain ⟨j2,h2,h3,h4⟩:=z18 q t 0 x hx;have e:j2=j:=by have:=zAe hxe;omega
    subst e;rw [eh,List.getElem?_eq_getElem h2] at h4;exact h4
  . intro hq;have:=yap q t 0 j h hq;rw [Int.zero_add] at this;exact ⟨_,this,zAa rfl⟩
theorem zqx (q:Rule->Bool):∀ (l pre:List Rule),(idxF q l (pre.length:Int)).map (fun i=>gx (pre++l) i)=l.filter q
  |[],pre=>rfl
  |r :: l,pre=>by
    have ih:=zqx q l (pre++[r]);rw [eu,gz,ey,lu] at ih;have e:((pre.length+1:Nat):Int)=(pre.length:Int)+1:=by omega
    rw [e] at ih;rw [idxF,oi]
    cases hq:q r with
    |true =>
      rw [zAc rfl,zAc rfl,ge,ih];congr 1;rw [zca (by simp),List.getElem_append_right (Nat.le_refl _)]
      simp
    |false=>rw [zAd (by simp),zAd (by simp),ih]
theorem zhl (q:Rule->Bool) (t:List Rule):zam t (idxF q t 0)=t.filter q:=zqx q t []
theorem zz6 (q:Rule->Bool):∀ t:List Rule,(t.filter q).length+(t.filter fun r=>!q r).length=t.length
  |[]=>rfl
  |r :: t=>by
    have:=zz6 q t;rw [oi,oi];cases q r<;>simp<;>omega
theorem zwy {t:List Rule} {p q:Rule->Bool} (h:∀ r,r∈t->p r=true->q r=true):(t.filter q).find? p=t.find? p:=by
  induction t with
  |nil=>rfl
  |cons r t ih =>
    have ih2:=ih fun x hx=>h x (.tail _ hx);rw [oi,md]
    cases hp:p r with
    |true =>
      have:=h r (.head _) hp;rw [this,zAc rfl,md,hp]
    |false =>
      cases hq:q r with
      |true=>rw [zAc rfl,md,hp];exact ih2
      |false=>rw [zAd (by simp)];exact ih2
theorem zpn {α β:Type} {l:List α} {f:α->β} {p:β->Bool} {q:α->Bool} (h:∀ x,x∈l->p (f x)=q x):(l.map f).find? p=(l.find? q).map f:=by
  induction l with
  |nil=>rfl
  |cons x l ih =>
    rw [ge,md,md,h x (.head _)]
    cases q x with
    |true=>rfl
    |false=>exact ih fun y hy=>h y (.tail _ hy)
theorem yqn {l:List Nat} {a:Nat} (h:a∈l):l.find? (fun i=>decide (i=a))=some a:=by
  induction l with
  |nil=>cases h
  |cons x l ih =>
    rw [md];by_cases e:x=a
    . rw [zAa e,e]
    . rw [zAb e];rcases List.mem_cons.1 h with w|w
      . exact absurd w.symm e
      . exact ih w
theorem ykg {k:Nat} {P m y:Pat} (hP:zak P=true) (hm:zak m=true) (hk:160<k) (h:zgf k P m=some y) (hy:zak y=true) {x:Ar 10} (hx:zag x=true):zob y x=zob m (zob P x):=by
  obtain ⟨Pm,Pb,Pw⟩:=za5.1 hP;obtain ⟨mm,mb,mw⟩:=za5.1 hm;obtain ⟨a,a1,a2⟩:=zsu (k:=k) hm Pb (by omega);obtain ⟨c,c1,c2,c3⟩:=yei (k:=k) (h:=P) (n:=m) Pm mm (by omega)
  have e:y=⟨c,a⟩:=by
    unfold zgf at h;rw [a1,dz,c1] at h;exact (Option.some.inj h).symm
  have z1:=zkc hP hx;have z2:=zkc hm z1.1;refine (zkc hy hx).uniq ⟨z2.1,fun i hi=>?_⟩;rw [z2.2 i hi,z1.2 i hi,e];show _=if hbit c i=true then hbit a i else hbit x i;rw [c3 i hi,a2.2 i hi];cases hbit m.mask i<;>cases hbit P.mask i<;>simp
theorem zvv {n:Net} (hn:zh7 n) {l:List Alt} (hl:∀ a,a∈l->a.link<(n.links.length:Int)) (h:Ar 10):out1 n noF h l=l.head?.map fun a=>zob a.mod h:=by
  unfold out1
  cases l with
  |nil=>rfl
  |cons a l=>rw [md,yqa hn (hl a (.head _))];rfl
theorem ya4 {α β:Type} {f g:α->Option β}:∀ {l:List α},(∀ x,x∈l->f x=g x)->l.filterMap f=l.filterMap g
  |[],_=>rfl
  |x :: l,h=>by
    rw [p8,p8,h x (.head _),ya4 fun y hy=>h y (.tail _ hy)]
theorem yfe {k:Nat} {n:Net} (hn:zh7 n) (hk:160<k) {s:Spot} {F:Pat->Pat} (hF:z8z k (spP s) F) (hp:zbf s.port=true) (ht:zbf s.tag=true) {r:Rule} (hr:z83 n r) {x:Ar 10} (hx:zag x=true):zni n noF (zx2 F r.outs) x=zni n noF r.outs (put s x):=by
  unfold zni zx2;rw [List.filterMap_map];refine ya4 fun l hl=>?_
  rw [Function.comp_apply,zvv hn (fun a ha=>by
    obtain ⟨b,hb,rfl⟩:=ip.1 ha
    exact hr.link l hl b hb),zvv hn (hr.link l hl)]
  cases l with
  |nil=>rw [List.map_nil,List.head?_nil,Option.map_none,Option.map_none]
  |cons a l =>
    have hm:=hr.mod _ hl a (.head _);obtain ⟨f1,f2,f3⟩:=hF a.mod hm;have e:(zn5 F a).mod=F a.mod:=Eq.trans rfl rfl;rw [ge,List.head?_cons,List.head?_cons,ld,ld,e];rw [ykg (zhx hp ht) hm hk f1 f3 hx,z6n hx hp ht]
theorem z9g {n:Net} (hn:zh7 n) {link tag:Int} (hl:0<=link/\link<(n.links.length:Int)) (ht:zbf tag=true) {x:Ar 10} (hx:zag x=true):zni n noF [[⟨link,spP ⟨link,tag⟩⟩]] x=[put ⟨link,tag⟩ x]:=by
  have h30:=hn.links;unfold zni;rw [p8,zvv hn (fun a ha=>by rw [jv] at ha;rw [ha];exact hl.2)];show (zob (spP ⟨link,tag⟩) x :: List.filterMap _ [])=_;rw [z6n hx (zef ⟨hl.1,by show link<=65535;omega⟩) ht];rfl
theorem zw2 {r:Rule} {s:Spot} {h:Ar 10} (hr:zak r.mat=true) (hh:zag h=true) (hq:qs s r=true) (hm:zdk r.mat h=true):atS s h:=by
  unfold qs exB at hq;simp only [d8,decide_eq_true_eq] at hq;obtain ⟨⟨q0,q9⟩,hs⟩:=hq;obtain ⟨pm,pb,pw⟩:=za5.1 hr;have hw0:=zjs.1 hm
  have key:∀ j:Nat,j<10->gx r.mat.mask.l (j:Int)=65535->gx r.mat.bits.l (j:Int)=gx h.l (j:Int):=by
    intro j hj hf;obtain ⟨a1,a2⟩:=zc2 pb hj;obtain ⟨b1,b2⟩:=zc2 hh hj;rw [a1,b1,zog a2 b2 fun t ht=>?_];rw [<- zg8 _ hj ht,<- zg8 _ hj ht];exact hw0 _ (zxi j t hj ht).2.2 (zrj hj ht hf)
  rw [<- hs];exact ⟨(key 0 (by omega) q0).symm,(key 9 (by omega) q9).symm⟩
theorem zp9 {t:List Rule} {s:Spot} {h:Ar 10} (htr:∀ r,r∈t->zak r.mat=true) (hp:zbf s.port=true) (ht:zbf s.tag=true) (hm:zlv t s=false) (ha:atS s h) {r:Rule} (hr:r∈t) (hmr:zdk r.mat h=true):qs s r=true:=by
  have ho:=zsi hmr ha;unfold qs
  cases he:exB r with
  |true =>
    rw [zoq (htr r hr) hp ht he] at ho;rw [ho];rfl
  |false =>
    exfalso;have:zlv t s=true:=ky.2 ⟨r,hr,by rw [he,ho];rfl⟩;rw [hm] at this;cases this
theorem zg2 {t:List Rule} {s:Spot} (h:bix t s≠[]):zlv t s=false/\bix t s=idxF (qs s) t 0:=by
  unfold bix at h ⊢
  cases hm:zlv t s with
  |true=>rw [hm] at h;exact absurd rfl h
  |false=>exact ⟨rfl,rfl⟩
section
variable {n:Net} {c d:zbc} {m_:Offl} {F:Pat->Pat} (hn:zh7 n) (hc:znm n c=true) (M:yj9 n c m_ F d)
include hn hc M
theorem zos:zbf m_.port=true/\zbf m_.tag=true/\zbf m_.out=true/\zbf m_.back=true/\zbf m_.first=true:=by
  obtain ⟨p1,p2,p3,p4,p5⟩:=M.inr;obtain ⟨f1,f2⟩:=M.first
  have hnl:=hn.links;exact ⟨zef ⟨p4.1,by omega⟩,zef ⟨p5.1,by omega⟩,zef ⟨p2.1,by omega⟩,zef ⟨p3.1,by omega⟩,zef ⟨by omega,by omega⟩⟩
theorem mv_t:(gx c.tables m_.node).length<=4000/\∀ r,r∈gx c.tables m_.node->zhp n (c.steps.length:Int) r=true:=by
  obtain ⟨hc1,hc2,hc3⟩:=zgg hc;exact hc3 _ (zm0 (by rw [hc1];exact M.inr.1))
theorem ysk:0<=(gx n.links m_.out).to/\(gx n.links m_.out).to<(n.nodes.length:Int):=by
  obtain ⟨p1,p2,_⟩:=M.inr;exact hn.to m_.out.toNat (by omega)
theorem mv_u:(gx c.tables (gx n.links m_.out).to).length<=4000/\∀ r,r∈gx c.tables (gx n.links m_.out).to->zhp n (c.steps.length:Int) r=true:=by
  obtain ⟨hc1,hc2,hc3⟩:=zgg hc;exact hc3 _ (zm0 (by rw [hc1];exact ysk hn hc M))
theorem yc5:∀ r,r∈gx c.tables m_.node->zak r.mat=true:=fun r hr=>zt0 ((mv_t hn hc M).2 r hr)
theorem mv_b (r:Rule) (hr:r∈zam (gx c.tables m_.node) (bix (gx c.tables m_.node) ⟨m_.port,m_.tag⟩)) (CL:List Rule):zak (zm5 m_ CL r).mat=true/\qs ⟨m_.out,m_.first⟩ (zm5 m_ CL r)=true/\exB r=true/\zdi r=⟨m_.port,m_.tag⟩:=by
  obtain ⟨w1,w2,w3,w4,w5⟩:=zos hn hc M;rw [(zg2 M.some).2,zhl,px] at hr;obtain ⟨h1,h2⟩:=hr;have h2':=h2;unfold qs exB at h2;simp only [d8,decide_eq_true_eq] at h2;obtain ⟨⟨q0,q9⟩,hs⟩:=h2;have g0:gx ((r.mat.bits.set 0 m_.out).set 9 m_.first).l 0=m_.out:=zk2 ⟨m_.out,m_.first⟩ r.mat.bits (j:=0) (by omega);have g9:gx ((r.mat.bits.set 0 m_.out).set 9 m_.first).l 9=m_.first:=zk2 ⟨m_.out,m_.first⟩ r.mat.bits (j:=9) (by omega)
  refine ⟨z3n (yc5 hn hc M r h1) q0 q9 w3 w5,?_,?_,hs⟩
  . unfold qs exB zdi zm5;simp only [d8,decide_eq_true_eq];exact ⟨⟨q0,q9⟩,by rw [g0,g9]⟩
  . unfold qs at h2';rw [d8] at h2';exact h2'.1
theorem yc8 {h:Ar 10} (hh:zag h=true) (h1:¬ atS ⟨m_.port,m_.tag⟩ h) (h2:∀ i:Nat,i<(zbz [] (zam (gx c.tables m_.node) (bix (gx c.tables m_.node) ⟨m_.port,m_.tag⟩))).length->¬ atS ⟨m_.back,m_.first+1+(i:Int)⟩ h):zb9 (tabA F m_ (gx c.tables m_.node)) h=zb9 (gx c.tables m_.node) h:=by
  obtain ⟨w1,w2,w3,w4,w5⟩:=zos hn hc M;have hf:=M.first
  unfold tabA
  rw [znk (fun r hr=>by
    obtain ⟨i,hi,rfl⟩:=ip.1 hr;rw [jf] at hi
    cases hm:zdk (zn6 F m_.back m_.first (zbz [] (zam (gx c.tables m_.node) (bix (gx c.tables m_.node) ⟨m_.port,m_.tag⟩))) i).mat h with
    |false=>rfl
    |true=>exact absurd ((znr hh w4 (zef ⟨by show 0<=m_.first+1+(i:Int);omega,by show m_.first+1+(i:Int)<=65535;omega⟩)).1 hm) (h2 i hi)),znk (fun r hr=>by
    rw [jv] at hr;subst hr
    cases hm:zdk (spP ⟨m_.port,m_.tag⟩) h with
    |false=>rfl
    |true=>exact absurd ((znr hh w1 w2).1 hm) h1),(zg2 M.some).2,z0s]
  unfold zb9;refine zwy fun r hr hm=>?_
  cases hq:qs ⟨m_.port,m_.tag⟩ r with
  |false=>rfl
  |true=>exact absurd (zw2 (yc5 hn hc M r hr) hh hq hm) h1
theorem yqd {h:Ar 10} (hh:zag h=true) (h1:¬ atS ⟨m_.out,m_.first⟩ h):zb9 (tabB m_ (gx c.tables m_.node) (gx c.tables (gx n.links m_.out).to)) h=zb9 (gx c.tables (gx n.links m_.out).to) h:=by
  unfold tabB;rw [znk fun r hr=>?_];obtain ⟨x,hx,rfl⟩:=ip.1 hr;obtain ⟨b1,b2,_⟩:=mv_b hn hc M x hx (zbz [] (zam (gx c.tables m_.node) (bix (gx c.tables m_.node) ⟨m_.port,m_.tag⟩)))
  cases hm:zdk (zm5 m_ (zbz [] (zam (gx c.tables m_.node) (bix (gx c.tables m_.node) ⟨m_.port,m_.tag⟩))) x).mat h with
  |false=>rfl
  |true=>exact absurd (zw2 b1 hh b2 hm) h1
theorem yg6 (h:Ar 10) (hh:zag h=true):zb9 (tabA F m_ (gx c.tables m_.node)) (put ⟨m_.port,m_.tag⟩ h)=some ⟨0,spP ⟨m_.port,m_.tag⟩,-1,[[⟨m_.out,spP ⟨m_.out,m_.first⟩⟩]]⟩:=by
  obtain ⟨w1,w2,w3,w4,w5⟩:=zos hn hc M;have hp:=zlp (s:=⟨m_.port,m_.tag⟩) w1 w2 hh;unfold tabA;rw [ey,zp2 (fun r hr=>?_)]
  . unfold zb9;rw [lu,md,(znr hp w1 w2).2 (zpi _ h)]
  . rw [(zg2 M.some).2,z0s,px] at hr
    cases hm:zdk r.mat (put ⟨m_.port,m_.tag⟩ h) with
    |false=>rfl
    |true =>
      have:=zp9 (yc5 hn hc M) w1 w2 (zg2 M.some).1 (zpi _ h) hr.1 hm;rw [this] at hr;exact absurd hr.2 (by simp)
theorem yc7 (h:Ar 10) (hh:zag h=true):zb9 (tabB m_ (gx c.tables m_.node) (gx c.tables (gx n.links m_.out).to)) (put ⟨m_.out,m_.first⟩ h)=(zb9 (gx c.tables m_.node) (put ⟨m_.port,m_.tag⟩ h)).map (zm5 m_ (zbz [] (zam (gx c.tables m_.node) (bix (gx c.tables m_.node) ⟨m_.port,m_.tag⟩)))):=by
  obtain ⟨w1,w2,w3,w4,w5⟩:=zos hn hc M;have hfree:=M.free;unfold tabB;rw [zp2 (fun r hr=>?_)]
  . unfold zb9;rw [zpn (q:=fun r=>zdk r.mat (put ⟨m_.port,m_.tag⟩ h)) (fun r hr=>?_)]
    . congr 1;rw [(zg2 M.some).2,zhl];exact zwy fun r hr hm=>zp9 (yc5 hn hc M) w1 w2 (zg2 M.some).1 (zpi _ h) hr hm
    . obtain ⟨b1,b2,b3,b4⟩:=mv_b hn hc M r hr (zbz [] (zam (gx c.tables m_.node) (bix (gx c.tables m_.node) ⟨m_.port,m_.tag⟩)));exact z7v (g:=⟨m_.out,m_.first⟩) b3 b4
  . cases hm:zdk r.mat (put ⟨m_.out,m_.first⟩ h) with
    |false=>rfl
    |true =>
      have ho:=zsi hm (zpi _ h);have:zpa (gx c.tables (gx n.links m_.out).to) ⟨m_.out,m_.first⟩=true:=ky.2 ⟨r,hr,ho⟩;rw [hfree] at this;cases this
theorem yg7 (h:Ar 10) (hh:zag h=true) {ix:Nat} (hi:ix<(zbz [] (zam (gx c.tables m_.node) (bix (gx c.tables m_.node) ⟨m_.port,m_.tag⟩))).length):zb9 (tabA F m_ (gx c.tables m_.node)) (put ⟨m_.back,m_.first+1+(ix:Int)⟩ h)=some (zn6 F m_.back m_.first (zbz [] (zam (gx c.tables m_.node) (bix (gx c.tables m_.node) ⟨m_.port,m_.tag⟩))) ix):=by
  obtain ⟨w1,w2,w3,w4,w5⟩:=zos hn hc M;have hf:=M.first
  have hu:=M.used
  have hmeet:zpa (gx c.tables m_.node) ⟨m_.back,m_.first+1+(ix:Int)⟩=false:=by
    unfold z6v at hu;rw [List.any_eq_false] at hu;have:=hu ix (jf.2 hi);simpa using this
  have hno:∀ r,r∈gx c.tables m_.node->zdk r.mat (put ⟨m_.back,m_.first+1+(ix:Int)⟩ h)=false:=fun r hr=>by
    cases hm:zdk r.mat (put ⟨m_.back,m_.first+1+(ix:Int)⟩ h) with
    |false=>rfl
    |true =>
      have ho:=zsi hm (zpi _ h);have:zpa (gx c.tables m_.node) ⟨m_.back,m_.first+1+(ix:Int)⟩=true:=ky.2 ⟨r,hr,ho⟩;rw [hmeet] at this;cases this
  have wt:∀ i:Nat,i<(zbz [] (zam (gx c.tables m_.node) (bix (gx c.tables m_.node) ⟨m_.port,m_.tag⟩))).length->zbf (m_.first+1+(i:Int))=true:=fun i hi=>zef ⟨by omega,by omega⟩;have hp:=zlp (s:=⟨m_.back,m_.first+1+(ix:Int)⟩) w4 (wt ix hi) hh;have hat:=zpi ⟨m_.back,m_.first+1+(ix:Int)⟩ h;unfold tabA;rw [zp2 (fun r hr=>?_)]
  . unfold zb9;rw [zpn (q:=fun i:Nat=>decide (i=ix)) (fun i hi2=>?_),yqn (jf.2 hi)]
    . rfl
    . rw [jf] at hi2;rw [np,decide_eq_true_eq];refine (znr hp w4 (wt i hi2)).trans ⟨fun e=>?_,fun e=>by rw [e];exact hat⟩;have e1:gx (put ⟨m_.back,m_.first+1+(ix:Int)⟩ h).l 9=m_.first+1+(i:Int):=e.2
      have e2:gx (put ⟨m_.back,m_.first+1+(ix:Int)⟩ h).l 9=m_.first+1+(ix:Int):=hat.2
      omega
  . rcases List.mem_append.1 hr with hr|hr
    . exact hno r (z0t _ _ _ _ hr)
    . rw [jv] at hr;subst hr
      cases hm:zdk (spP ⟨m_.port,m_.tag⟩) (put ⟨m_.back,m_.first+1+(ix:Int)⟩ h) with
      |false=>rfl
      |true =>
        exfalso;have ha:=(znr hp w1 w2).1 hm
        have e:(⟨m_.port,m_.tag⟩:Spot)=⟨m_.back,m_.first+1+(ix:Int)⟩:=by
          have e1:=ha.1.symm.trans hat.1;have e2:=ha.2.symm.trans hat.2;simp only at e1 e2;rw [e1,e2]
        obtain ⟨b1,b2⟩:=zg2 M.some;have hne:=M.some;rw [b2] at hne;have:¬ ∀ r,r∈gx c.tables m_.node->qs ⟨m_.port,m_.tag⟩ r=false:=fun hall=>hne (zt6.2 hall);refine this fun r hr=>?_
        cases hq:qs ⟨m_.port,m_.tag⟩ r with
        |false=>rfl
        |true =>
          exfalso;unfold qs at hq;rw [d8,decide_eq_true_eq] at hq;have ho:=zoq (s:=⟨m_.port,m_.tag⟩) (yc5 hn hc M r hr) w1 w2 hq.1;rw [zAa hq.2] at ho;have hmt:zpa (gx c.tables m_.node) ⟨m_.port,m_.tag⟩=true:=ky.2 ⟨r,hr,ho⟩;rw [e,hmeet] at hmt;cases hmt
end
section
variable {k:Nat} {n:Net} (hk:big<=k) (hn:zh7 n) {l:List Offl} (hl:l.length<=5) {st:List zxo} (hst:∀ s,s∈st->s.key.length<big)
include hk hn hl hst
end
theorem ycu {k:Nat} (n:Net) (c:zbc) (most:Int) (hn:Held n) (hc:ygu c) (hk:big<=k):∃ r,zqs k n c most=some r/\(r=true->zh7 n/\znm n c=true/\c.steps.length<=40/\∀ t,t∈c.tables->(t.length:Int)<=most):=by
  unfold zqs;by_cases q1:10<(n.nodes.length:Int)
  . rw [zAc q1,dz,zAc rfl];exact ⟨_,rfl,fun h=>by cases h⟩
  rw [zAd q1];by_cases q2:30<(n.links.length:Int)
  . rw [zAc q2,dz,zAc rfl];exact ⟨_,rfl,fun h=>by cases h⟩
  rw [zAd q2,dz];by_cases q3:20<(n.edges.length:Int)
  . rw [zAc (zAa q3)];exact ⟨_,rfl,fun h=>by cases h⟩
  rw [zAd (by rw [decide_eq_true_eq];exact q3)];obtain ⟨r,e3,g3⟩:=ymj (by simp only [big] at hk;exact hk) n (by omega) (by omega) (by omega) hn;obtain ⟨f1,e1,g1⟩:=ypz c most hc hk;rw [e3,dz,e1,dz];by_cases q4:r=0
  rotate_left
  . rw [zAc q4,dz,zAc rfl];exact ⟨_,rfl,fun h=>by cases h⟩
  rw [zAd (fun h=>h q4),dz]
  cases f1 with
  |false=>exact ⟨_,rfl,fun h=>by cases h⟩
  |true =>
    rw [zAd (by simp),yf1 n c hc hk,dz];exact ⟨_,rfl,fun h=>⟨g3 q4,h,(g1 rfl).2.1,(g1 rfl).2.2⟩⟩
theorem zwd {b:Bool} {P:Prop} [Decidable P] (h:b=true↔P):some b=some (decide P):=by
  congr 1;by_cases hp:P
  . rw [zAa hp];exact h.2 hp
  . rw [zAb hp]
    cases b with
    |false=>rfl
    |true=>exact absurd (h.1 rfl) hp
theorem z2x {α β:Type} {x:Option α} {a:α} {f:α->Option β} {y:Option β} (h:x=some a) (h2:f a=y):x.bind f=y:=by
  rw [h];exact h2
theorem ylo (node to mn h0 h9 out back first z:Int):(if node=to then (if (0:Int)<=0/\0<(10:Int) then (if h0=out then (if (0:Int)<=9/\9<(10:Int) then (if h9=first then some true else (if node=mn then (if h0=back then (if first<h9 then some (decide (h9<=z)) else some false) else some false) else some false)) else none) else (if node=mn then (if h0=back then (if (0:Int)<=9/\9<(10:Int) then (if first<h9 then some (decide (h9<=z)) else some false) else none) else some false) else some false)) else none) else (if node=mn then (if (0:Int)<=0/\0<(10:Int) then (if h0=back then (if (0:Int)<=9/\9<(10:Int) then (if first<h9 then some (decide (h9<=z)) else some false) else none) else some false) else none) else some false))=some (decide ((node=to/\h0=out/\h9=first)\/(node=mn/\h0=back/\first<h9/\h9<=z))):=by
  repeat' split
  all_goals first
    |exact zwd ⟨fun _=>by omega,fun _=>rfl⟩
    |exact zwd ⟨fun h=>(by cases h),fun p=>(by exfalso;omega)⟩
    |exact zwd ⟨fun h=>by have:=zAe h;omega,fun p=>zAa (by omega)⟩
    |(exfalso;omega)
theorem ykv (P:Prop) [Decidable P] (node mn h0 h9 port tag:Int):(if decide P=true then some false else (if node≠mn then some true else (if (0:Int)<=0/\0<(10:Int) then (if h0≠port then some true else (if (0:Int)<=9/\9<(10:Int) then some (decide (h9≠tag)) else none)) else none)))=some (decide (¬ P/\(node≠mn\/h0≠port\/h9≠tag))):=by
  by_cases hP:P
  . rw [zAa hP,zAc rfl,zAb (fun x=>x.1 hP)]
  . rw [zAb hP,zAd (by simp)];repeat' split
    all_goals first
      |exact zwd ⟨fun _=>⟨hP,by omega⟩,fun _=>rfl⟩
      |exact zwd ⟨fun h=>⟨hP,by have:=zAe h;omega⟩,fun p=>zAa (by have:=p.2;omega)⟩
      |(exfalso;omega)
theorem ymy {l:List (List Rule)} {i j:Int} {x:List Rule} (hi:0<=i/\i<(l.length:Int)) (hj:0<=j):gx (l.set i.toNat x) j=if j=i then x else gx l j:=by
  show (l.set i.toNat x).getD j.toNat default=_;rw [eh];split
  . next e=>rw [e,List.getElem?_set_self (by omega)];rfl
  . next e =>
    rw [List.getElem?_set_ne (by omega)];show _=l.getD j.toNat default;rw [eh]
theorem zz2 {n:Net} {t:List Rule} {h:Ar 10} {steps:Int} (ht:∀ r,r∈t->zhp n steps r=true):(zjb n (zb9 t h) h).1.length<big:=by
  unfold zb9
  cases hf:t.find? fun r=>zdk r.mat h with
  |none=>show ([]:List (Ar 10)).length<big;decide
  |some r =>
    have hm:=List.mem_of_find?_eq_some hf;have:=(zsq (ht r hm)).len;show (zni n noF r.outs h).length<big;have h2:(zni n noF r.outs h).length<=r.outs.length:=List.length_filterMap_le _ _;simp only [big];omega
set_option maxHeartbeats 4000000 in
theorem yhb (n:Net) (c:zbc) (m_:Offl) (h:Ar 10) (node:Int) (hn:Held n) (hc:ygu c):∃ k,zeb k n c m_ h node=some true:=by
  refine ⟨big,?_⟩;generalize hk0:big=k;have hk:big<=k:=Nat.le_of_eq hk0;have hk160:160<k:=by simp only [big] at hk;omega
  unfold zeb;obtain ⟨r,e1,g1⟩:=ycu n c 40 hn hc hk;rw [e1,dz,zmj h (by omega),dz]
  cases r with
  |false=>rfl
  |true =>
  obtain ⟨hR,hr,_,_⟩:=g1 rfl
  cases hh:zag h with
  |false=>rfl
  |true =>
  have hT:true=true:=rfl;have hF1:¬ (false=true):=by simp
  rw [zAc hT,zAc hT];by_cases q1:node<0
  . rw [zAc q1];rfl
  rw [zAd q1,dz];by_cases q2:(n.nodes.length:Int)<=node
  . rw [zAc (zAa q2)]
  rw [zAd (by rw [decide_eq_true_eq];exact q2)];obtain ⟨d,e,m1,_,m3⟩:=yrg (m_:=m_) hk hR hr;rw [m1,dz];rcases m3 with ⟨he,_⟩|⟨he,F,hF,M⟩
  . rw [zAc he,dz,zAc hT];exact congrArg some (zAa he)
  have hne:¬ e≠0:=fun h=>h he;obtain ⟨hd,hds⟩:=z7t hR hr hF M;obtain ⟨c1,c2,c3⟩:=zgg hr;obtain ⟨d1,_,_⟩:=zgg hd;have hlen:¬ ((d.tables.length:Int)≠(c.tables.length:Int)):=fun h=>h (by rw [d1,c1]);have hno:0<=m_.node/\m_.node<(c.tables.length:Int):=by rw [c1];exact M.inr.1
  have hno2:0<=m_.node/\m_.node<(d.tables.length:Int):=by rw [d1];exact M.inr.1
  have hto:=ysk hR hr M;have hto1:0<=(gx n.links m_.out).to/\(gx n.links m_.out).to<(c.tables.length:Int):=by rw [c1];exact hto
  have hto2:0<=(gx n.links m_.out).to/\(gx n.links m_.out).to<(d.tables.length:Int):=by rw [d1];exact hto
  obtain ⟨w1,w2,w3,w4,w5⟩:=zos hR hr M;obtain ⟨ta,tb⟩:=mv_t hR hr M;obtain ⟨ua,ub⟩:=mv_u hR hr M;have htr:=yc5 hR hr M;have hokt:z7r (gx c.tables m_.node):=⟨by simp only [big];omega,fun r hr=>(yky (tb r hr)).1⟩;have hbl:=yjr (gx c.tables m_.node) ⟨m_.port,m_.tag⟩;have hbunch:=z33 (k:=k) (s:=⟨m_.port,m_.tag⟩) htr (by omega) w1 w2 hk;have hbunch2:zhh k (gx c.tables m_.node) m_.port m_.tag=some (bix (gx c.tables m_.node) ⟨m_.port,m_.tag⟩):=hbunch;have e2:=zvk (k:=k) hokt (fun i hi=>z2w hi) (show (bix (gx c.tables m_.node) ⟨m_.port,m_.tag⟩).length<=100000 by omega) hk;rw [zAd hne,dz,zAd (by rw [decide_eq_true_eq];exact hlen),zAc hno,hbunch2,dz,e2,dz,zAc M.inr.2.1,zAc hno2]
  -- the tables after the move
  have hap:m_.node≠(gx n.links m_.out).to:=by
    have:=hR.apart m_.out.toNat (by have:=M.inr.2.1;omega);rw [<- M.ends.1];exact this
  have hset:∀ j:Int,0<=j->gx d.tables j=if j=(gx n.links m_.out).to then numT (tabB m_ (gx c.tables m_.node) (gx c.tables (gx n.links m_.out).to)) else if j=m_.node then numT (tabA F m_ (gx c.tables m_.node)) else gx c.tables j:=by
    intro j hj;rw [M.eq];show gx ((c.tables.set m_.node.toNat _).set ((gx n.links m_.out).to).toNat _) j=_;rw [ymy (by rw [List.length_set];exact hto1) hj,ymy hno hj]
  have hgA:gx d.tables m_.node=numT (tabA F m_ (gx c.tables m_.node)):=by rw [hset _ hno.1,zAd hap,zAc rfl]
  have hgB:gx d.tables (gx n.links m_.out).to=numT (tabB m_ (gx c.tables m_.node) (gx c.tables (gx n.links m_.out).to)):=by rw [hset _ hto.1,zAc rfl]
  have hbl2:(zam (gx c.tables m_.node) (bix (gx c.tables m_.node) ⟨m_.port,m_.tag⟩)).length=(bix (gx c.tables m_.node) ⟨m_.port,m_.tag⟩).length:=by unfold zam;simp
  have hfl:=zz6 (qs ⟨m_.port,m_.tag⟩) (gx c.tables m_.node)
  have hwo:(woL (bix (gx c.tables m_.node) ⟨m_.port,m_.tag⟩) 0 (gx c.tables m_.node)).length+(bix (gx c.tables m_.node) ⟨m_.port,m_.tag⟩).length=(gx c.tables m_.node).length:=by
    rw [<- hbl2,(zg2 M.some).2,zhl,z0s];omega
  have hcl:(zbz [] (zam (gx c.tables m_.node) (bix (gx c.tables m_.node) ⟨m_.port,m_.tag⟩))).length<=4000:=by
    obtain ⟨e,h1,h2,h3⟩:=zgy (zam (gx c.tables m_.node) (bix (gx c.tables m_.node) ⟨m_.port,m_.tag⟩)) [];rw [h1];simp only [fb];omega
  have hA:((gx d.tables m_.node).length:Int)=((gx c.tables m_.node).length:Int) - ((bix (gx c.tables m_.node) ⟨m_.port,m_.tag⟩).length:Int)+1+((zbz [] (zam (gx c.tables m_.node) (bix (gx c.tables m_.node) ⟨m_.port,m_.tag⟩))).length:Int):=by
    rw [hgA,zkq];unfold tabA;rw [eu,eu,ek,List.length_range,gz];omega
  have hB:((gx d.tables (gx n.links m_.out).to).length:Int)=((gx c.tables (gx n.links m_.out).to).length:Int)+((bix (gx c.tables m_.node) ⟨m_.port,m_.tag⟩).length:Int):=by
    rw [hgB,zkq];unfold tabB;rw [eu,ek,hbl2];omega
  have hfst:=M.first
  rw [wr64 (n:=((gx c.tables m_.node).length:Int) - ((bix (gx c.tables m_.node) ⟨m_.port,m_.tag⟩).length:Int)) (by omega),wr64 (n:=((gx c.tables m_.node).length:Int) - ((bix (gx c.tables m_.node) ⟨m_.port,m_.tag⟩).length:Int)+1) (by omega),wr64 (n:=((gx c.tables m_.node).length:Int) - ((bix (gx c.tables m_.node) ⟨m_.port,m_.tag⟩).length:Int)+1+_) (by omega),zAd (fun h=>h hA),zAc hto2,zAc hto1,wr64 (n:=((gx c.tables (gx n.links m_.out).to).length:Int)+_) (by omega),dz,zAd (by rw [decide_eq_true_eq];exact fun h=>h hB)];rw [wr64 (n:=m_.first+((zbz [] (zam (gx c.tables m_.node) (bix (gx c.tables m_.node) ⟨m_.port,m_.tag⟩))).length:Int)) (by omega)];have hnd:0<=node/\node<(n.nodes.length:Int):=⟨by omega,by omega⟩
  have hFA:∀ x,zag x=true->zc1 k n d m_.node x=some (zjb n (zb9 (tabA F m_ (gx c.tables m_.node)) x) x):=fun x hx=>by
    rw [zns hd M.inr.1 hx hk,hgA,zwu]
  have hFB:∀ x,zag x=true->zc1 k n d (gx n.links m_.out).to x=some (zjb n (zb9 (tabB m_ (gx c.tables m_.node) (gx c.tables (gx n.links m_.out).to)) x) x):=fun x hx=>by
    rw [zns hd hto hx hk,hgB,zwu]
  refine z2x (a:=decide ((node=(gx n.links m_.out).to/\gx h.l 0=m_.out/\gx h.l 9=m_.first)\/(node=m_.node/\gx h.l 0=m_.back/\m_.first<gx h.l 9/\gx h.l 9<=m_.first+((zbz [] (zam (gx c.tables m_.node) (bix (gx c.tables m_.node) ⟨m_.port,m_.tag⟩))).length:Int)))) ?_ ?_
  . exact ylo _ _ _ _ _ _ _ _ _
  refine z2x (a:=decide (¬ ((node=(gx n.links m_.out).to/\gx h.l 0=m_.out/\gx h.l 9=m_.first)\/(node=m_.node/\gx h.l 0=m_.back/\m_.first<gx h.l 9/\gx h.l 9<=m_.first+((zbz [] (zam (gx c.tables m_.node) (bix (gx c.tables m_.node) ⟨m_.port,m_.tag⟩))).length:Int)))/\(node≠m_.node\/gx h.l 0≠m_.port\/gx h.l 9≠m_.tag))) ?_ ?_
  . exact ykv _ _ _ _ _ _ _
  refine z2x (a:=Sum.inr ()) ?_ ?_
  . split
    . next hp =>
      obtain ⟨hp1,hp2⟩:=zAe hp;have hc3:=c3 _ (zm0 (show 0<=node/\node<(c.tables.length:Int) by rw [c1];exact hnd))
      have key:zc1 k n d node h=some (zjb n (zb9 (gx c.tables node) h) h):=by
        by_cases n1:node=m_.node
        . subst n1;rw [hFA h hh,yc8 hR hr M hh (fun ha=>?_) (fun i hi ha=>?_)]
          . have a1:=ha.1;have a2:=ha.2;simp only at a1 a2;omega
          . have a1:=ha.1;have a2:=ha.2;simp only at a1 a2;omega
        . by_cases n2:node=(gx n.links m_.out).to
          . rw [n2,hFB h hh,yqd hR hr M hh (fun ha=>?_)];have a1:=ha.1;have a2:=ha.2;simp only at a1 a2;omega
          . rw [zns hd hnd hh hk,hset node hnd.1,zAd n2,zAd n1]
      have hl:=zz2 (n:=n) (h:=h) hc3.2;rw [zns hr hnd hh hk,key,dz,dz,zph _ hl hk,dz,zAc hT,zAd (fun x=>x rfl)]
    . rfl
  have p0:(0:Int)<=0/\(0:Int)<10:=by decide
  have p9:(0:Int)<=9/\(9:Int)<10:=by decide
  rw [Sum.elim_inr,zAc p0,zAc p9];have hps:zag (put ⟨m_.port,m_.tag⟩ h)=true:=zlp w1 w2 hh;have hpo:zag (put ⟨m_.out,m_.first⟩ h)=true:=zlp w3 w5 hh;have e3:zc1 k n c m_.node ((h.set 0 m_.port).set 9 m_.tag)=some (zjb n (zb9 (gx c.tables m_.node) (put ⟨m_.port,m_.tag⟩ h)) (put ⟨m_.port,m_.tag⟩ h)):=zns hr M.inr.1 hps hk
  have e4:zc1 k n d m_.node ((h.set 0 m_.port).set 9 m_.tag)=some ([put ⟨m_.out,m_.first⟩ h],-1):=by
    have:=hFA _ hps;rw [yg6 hR hr M h hh] at this;have z:=z9g hR M.inr.2.1 w5 hps;rw [z7m] at z
    have z2:zjb n (some ⟨0,spP ⟨m_.port,m_.tag⟩,-1,[[⟨m_.out,spP ⟨m_.out,m_.first⟩⟩]]⟩) (put ⟨m_.port,m_.tag⟩ h)=([put ⟨m_.out,m_.first⟩ h],-1):=by
      show (zni n noF [[⟨m_.out,spP ⟨m_.out,m_.first⟩⟩]] (put ⟨m_.port,m_.tag⟩ h),(-1:Int))=_;rw [z]
    rw [z2] at this;exact this
  have hone:∀ x:Ar 10,gx [x] 0=x:=fun _=>rfl;have hl1:∀ x:Ar 10,¬ (([x].length:Int)≠1):=fun x h=>h rfl;have hl2:∀ x:Ar 10,(0:Int)<=0/\(0:Int)<([x].length:Int):=fun x=>⟨by decide,by show (0:Int)<1;decide⟩;have hm1:¬ ((-1:Int)≠-1):=fun h=>h rfl;have hat1:=(zpi ⟨m_.out,m_.first⟩ h).1;have hwl:=zz2 (n:=n) (h:=put ⟨m_.port,m_.tag⟩ h) tb;rw [e3,e4,dz,dz,zAd (hl1 _),zAd hm1,zAc (hl2 _),hone,dz,zAd (by rw [decide_eq_true_eq];exact fun h=>h hat1),zAc (hl2 _),hFB _ hpo,yc7 hR hr M h hh,dz]
  cases hrf:zb9 (gx c.tables m_.node) (put ⟨m_.port,m_.tag⟩ h) with
  |none=>rfl
  |some r =>
    rw [hrf] at hwl;have hrm:r∈gx c.tables m_.node:=List.mem_of_find?_eq_some hrf
    have hmr:zdk r.mat (put ⟨m_.port,m_.tag⟩ h)=true:=by
      have:=List.find?_some hrf;exact this
    have hq:=zp9 htr w1 w2 (zg2 M.some).1 (zpi _ h) hrm hmr
    have hrb:r∈zam (gx c.tables m_.node) (bix (gx c.tables m_.node) ⟨m_.port,m_.tag⟩):=by
      rw [(zg2 M.some).2,zhl,px];exact ⟨hrm,hq⟩
    by_cases hdr:zep r=true
    . have hdr2:=zAe hdr;have ho:r.outs=[]:=List.length_eq_zero_iff.1 hdr2.2
      have z1:zjb n (Option.map (zm5 m_ (zbz [] (zam (gx c.tables m_.node) (bix (gx c.tables m_.node) ⟨m_.port,m_.tag⟩)))) (some r)) (put ⟨m_.out,m_.first⟩ h)=([],-1):=by
        rw [ld];show (zni n noF (if zep r=true then ([]:List (List Alt)) else _) _,(-1:Int))=_;rw [zAc hdr];rfl
      have z2:zjb n (some r) (put ⟨m_.port,m_.tag⟩ h)=([],-1):=by
        show (zni n noF r.outs _,r.step)=_;rw [ho,hdr2.1];rfl
      rw [z1,z2];rfl
    . have hin:=zmp _ [] r hrb hdr;have hix:=ybs hin;have hix0:=(zuh (zbz [] (zam (gx c.tables m_.node) (bix (gx c.tables m_.node) ⟨m_.port,m_.tag⟩))) r).1
      have hsim:simB (gx (zbz [] (zam (gx c.tables m_.node) (bix (gx c.tables m_.node) ⟨m_.port,m_.tag⟩))) (zha (zbz [] (zam (gx c.tables m_.node) (bix (gx c.tables m_.node) ⟨m_.port,m_.tag⟩))) r)) r=true:=by
        have e:zha (zbz [] (zam (gx c.tables m_.node) (bix (gx c.tables m_.node) ⟨m_.port,m_.tag⟩))) r=idxB (fun x=>simB x r) (zbz [] (zam (gx c.tables m_.node) (bix (gx c.tables m_.node) ⟨m_.port,m_.tag⟩))):=zAc hin;rw [e];exact (zq8 (fun e=>zox.1 e hin)).2.2
      obtain ⟨ix,hixe⟩:∃ ix:Nat,zha (zbz [] (zam (gx c.tables m_.node) (bix (gx c.tables m_.node) ⟨m_.port,m_.tag⟩))) r=(ix:Int):=⟨(zha (zbz [] (zam (gx c.tables m_.node) (bix (gx c.tables m_.node) ⟨m_.port,m_.tag⟩))) r).toNat,by omega⟩;have hsim2:=zAe hsim;rw [hixe] at hsim2 hix;have hixn:ix<((zbz [] (zam (gx c.tables m_.node) (bix (gx c.tables m_.node) ⟨m_.port,m_.tag⟩)))).length:=by omega
      have wtag:zbf (m_.first+1+(ix:Int))=true:=zef ⟨by omega,by omega⟩
      have z1:zjb n (Option.map (zm5 m_ (zbz [] (zam (gx c.tables m_.node) (bix (gx c.tables m_.node) ⟨m_.port,m_.tag⟩)))) (some r)) (put ⟨m_.out,m_.first⟩ h)=([put ⟨m_.back,m_.first+1+(ix:Int)⟩ h],-1):=by
        rw [ld];show (zni n noF (if zep r=true then ([]:List (List Alt)) else [[⟨m_.back,spP ⟨m_.back,m_.first+1+zha (zbz [] (zam (gx c.tables m_.node) (bix (gx c.tables m_.node) ⟨m_.port,m_.tag⟩))) r⟩⟩]]) _,(-1:Int))=_;rw [zAd hdr,hixe,z9g hR M.inr.2.2.1 wtag hpo,z7m]
      have hpb:zag (put ⟨m_.back,m_.first+1+(ix:Int)⟩ h)=true:=zlp w4 wtag hh;have z3:=hFA _ hpb;rw [yg7 hR hr M h hh hixn] at z3
      have z4:zjb n (some (zn6 F m_.back m_.first (zbz [] (zam (gx c.tables m_.node) (bix (gx c.tables m_.node) ⟨m_.port,m_.tag⟩))) ix)) (put ⟨m_.back,m_.first+1+(ix:Int)⟩ h)=zjb n (some r) (put ⟨m_.port,m_.tag⟩ h):=by
        have hcm:((zbz [] (zam (gx c.tables m_.node) (bix (gx c.tables m_.node) ⟨m_.port,m_.tag⟩)))).getD ix default∈gx c.tables m_.node:=by
          obtain ⟨e,h1,h2,h3⟩:=zgy (zam (gx c.tables m_.node) (bix (gx c.tables m_.node) ⟨m_.port,m_.tag⟩)) [];have hm:=zrh hixn;have h4:((zbz [] (zam (gx c.tables m_.node) (bix (gx c.tables m_.node) ⟨m_.port,m_.tag⟩)))).getD ix default∈e:=by rw [h1] at hm ⊢;simpa using hm
          have:=h3 _ h4;rw [(zg2 M.some).2,zhl,px] at this;rw [(zg2 M.some).2,zhl];exact this.1
        show (zni n noF (zx2 F (((zbz [] (zam (gx c.tables m_.node) (bix (gx c.tables m_.node) ⟨m_.port,m_.tag⟩)))).getD ix default).outs) _,(((zbz [] (zam (gx c.tables m_.node) (bix (gx c.tables m_.node) ⟨m_.port,m_.tag⟩)))).getD ix default).step)=(zni n noF r.outs _,r.step);have e1:(((zbz [] (zam (gx c.tables m_.node) (bix (gx c.tables m_.node) ⟨m_.port,m_.tag⟩)))).getD ix default).step=r.step:=hsim2.1;have e2:(((zbz [] (zam (gx c.tables m_.node) (bix (gx c.tables m_.node) ⟨m_.port,m_.tag⟩)))).getD ix default).outs=r.outs:=hsim2.2;rw [yfe hR hk160 hF w1 w2 (zsq (tb _ hcm)) hpb,z7m,e1,e2]
      rw [z4] at z3;have hl0:∀ x:Ar 10,¬ (([x].length:Int)=0):=fun x h=>by cases h
      have hat2:=(zpi ⟨m_.back,m_.first+1+(ix:Int)⟩ h).1;rw [z1,zAd (hl0 _),zAd (hl1 _),zAd hm1,zAc (hl2 _),hone,dz,zAd (by rw [decide_eq_true_eq];exact fun h=>h hat2),zAc (hl2 _),z3,dz,zph _ hwl hk,dz,zAc hT];exact congrArg some (zAa rfl)
theorem heldW {n:Net} (h:ypl n):Held n:=⟨fun x hx=>(h.1.2 x hx).1,fun x hx=>(h.2.2.2 x hx).1⟩
theorem yp9 {r:Rule} (h:yd9 r):zia r:=⟨h.2.2.2.1,fun l hl=>(h.2.2.2.2 l hl).1⟩
theorem ysh {c:zbc} (h:z0v c):ygu c:=⟨h.2.1.1,fun t ht=>⟨(h.2.1.2 t ht).1,fun r hr=>yp9 ((h.2.1.2 t ht).2 r hr)⟩,h.2.2.1,fun s hs=>(h.2.2.2 s hs).2.2.1.1⟩
theorem law3w (n:Net) (c:zbc) (m_:Offl) (h:Ar 10) (node:Int) (wn:ypl n) (wc:z0v c) (_:ymm m_) (_:∀ y,y∈h.l->inI y) (_:inI node):∃ k,zeb k n c m_ h node=some true :=
  yhb n c m_ h node (heldW wn) (ysh wc)
end Go.Proofs.YteifcnjpjjaikaaGreat
