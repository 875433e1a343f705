/- Part 9 of the proof of FitCountsAsSpecified (several texts in one; no further condition). -/
import Derived.Test.YteifcnjpjjaikaaGreatZH
import Derived.Test.YteifcnjpjjaikaaGreatZF
set_option linter.unusedSimpArgs false
set_option linter.unusedVariables false
set_option linter.unusedSectionVars false
namespace Go.Proofs.YteifcnjpjjaikaaGreat
set_option maxHeartbeats 8000000
open _root_.Bool renaming and_eq_true->dr,and_self->et,not_false->gc,not_true->f6,toNat_false->nz
open _root_.Classical renaming byContradiction->lc
open _root_.Eq renaming trans->d6
open Go.Instr renaming sameBits->lu
open Go.IntKind renaming i64->dw
open _root_.List renaming all_eq_true->ez,append_assoc->fe,append_nil->fj,cons_append->fd,drop_eq_getElem_cons->jr,drop_of_length_le->il,drop_succ_cons->ir,drop_zero->fp,ext_getElem?->nh,flatten_cons->fm,flatten_nil->io,getD_eq_getElem?_getD->ef,getElem?_append_right->fq,getElem?_eq_getElem->dv,getElem?_eq_some_iff->d9,getElem?_set->ou,getElem_mem->fo,length_append->er,length_cons->eh,length_map->ec,length_nil->gh,length_range->nm,length_take->fi,map_congr_left->oe,map_cons->gb,mem_cons->ib,mem_map->jq,mem_of_getElem?->gi,mem_range->jx,nil_append->ff,range->jc,replicate->ew,set_cons_succ->ke,take_of_length_le->fk
open _root_.Nat renaming and_le_left->mg,beq_refl->gw,eq_of_testBit_eq->mv,le_refl->dz,lt_of_le_of_lt->oq,lt_of_lt_of_le->ei,lt_or_ge->o8,mul_one->nf,reduceAdd->ek,reduceEqDiff->ej,reduceLT->iv,reduceLeDiff->ny,reduceMul->i6,reduceSub->gt,testBit_and->jf,testBit_or->mq,testBit_two_pow_sub_one->i7,zero_add->fz,zero_le->fw
open Go renaming Operand->d8
open _root_.Option renaming bind_some->dq
open _root_.Option.some renaming injEq->dp
open Go.Proofs.YteifcnjpjjaikaaGreat.Pure renaming clr->fh
open _root_.Sum renaming elim->gr
open Go.Proofs.YteifcnjpjjaikaaGreat.T renaming idsL->fy,int->dy,lst->pp
open Go.Proofs.YteifcnjpjjaikaaGreat.TS renaming add_ne->ld,add_same->l8,set_ne->gl,set_same->g0
open Go.Proofs.YteifcnjpjjaikaaGreat.TW renaming block->fc,freeze->oi,loopT->gy,seq->dn
open Go.Proofs.YteifcnjpjjaikaaGreat.zaj renaming call->ey
set_option maxRecDepth 100000
open Go Go.RowKit
def zid (k:Nat) (t:List Rule) (fv:Net) (fv2:zaw):Option Bool:=((zib k fv (fv2.steps.length:Int) t).bind fun ag=>some (decide (ag.2≠0)))
theorem zmv (ax:Axs) (hx:NoAx ax) (k:Nat) (t:List Rule) (fv:Net) (fv2:zaw) (v:Bool) (H:zid k t fv fv2=some v):Pure Tryz.prog (EE ax) [] 41 [zcp t,.cp [zbn fv.nodes,zbo fv.links,zbp fv.edges],.cp [.int .i64 fv2.version,zam fv2.tables,zau fv2.steps]] (.bool v):=by
 rw [zid] at H;refine en [.tmp 4] 18 [0,1,2] (hx.no _ (by decide)) (fn41 ax) ?_;intro h hh;repeat apply dn
 refine rk [0,1,2] [] hh fun h hh=>?_;obtain ⟨ag,e1,H⟩:=zad H;repeat apply dn
 refine rkp [6] [] [.tup [.int .i64 ag.1,.int .i64 ag.2]] hh ?_ ?_
 .exact ⟨ey ((zt4 ax hx k fv (fv2.steps.length:Int) t ag e1 ).call _),trivial⟩
 clear hh h;intro h hh;repeat apply dn
 refine rk [4] [] hh fun h hh=>?_;cases H;exact rt hh
def zay (k:Nat) (s_:List (List Rule)) (f_:(List Rule)->Option Bool):Nat->Int->Option (Int ⊕ Unit)
 |0,_=>none
 |m+1,i=>(if i<(s_.length:Int) then (if 0<=i/\i<(s_.length:Int) then ((f_ (gx s_ i)).bind fun r=>(if r=true then some (.inl i) else zay k s_ f_ m (dw.wrap (i+1)))) else none) else some (.inr ()))
def zb3 (k:Nat) (s_:List (List Rule)) (f_:(List Rule)->Option Bool):Option Int:=((zay k s_ f_ k 0:Option (Int ⊕ Unit)).bind fun o=>gr (fun r=>some r) (fun s_2=>some (-1)) o)
theorem zj2 (ax:Axs) (hx:NoAx ax) (k:Nat) (s_:List (List Rule)) (f_:(List Rule)->Option Bool) (v:Int) (H:zb3 k s_ f_=some v) (f__f:Nat) (f__c:List T) (f__i:fy 0 f__c=true) (f__h:∀ (y0:List Rule) (w:Bool),f_ y0=some w->Pure Tryz.prog (EE ax) [] f__f ([]++[zcp y0]++f__c) (.bool w)):Pure Tryz.prog (EE ax) [] 83 [zam s_,.fn f__f [] f__c] (.int .i64 v):=by
 rw [zb3] at H;refine en (ha:=by simp only [zfx,zfw,idsA,idsB,idsC,f__i,et]) [.tmp 4] 19 [0,1] (hx.no _ (by decide)) (fn83 ax) ?_;intro h hh;repeat apply dn
 refine rk [0,1] [] hh fun h hh=>?_;repeat apply dn
 refine rk [0,1,7,8] [] hh fun h hh=>?_;obtain ⟨o,H1,H⟩:=zad H;repeat apply dn
 refine cu [] 0 (fun h bs=>∃ s_2:Unit,o=.inr s_2/\(True)/\bs=[]) ?_ ?_
 .skip;repeat apply dn
  apply fc;repeat apply dn
  refine gy [0,1,7,8] (fun m h bs=>∃ (i:Int),zay k s_ f_ m i=some o/\(h 0=zam s_/\h 1=.fn f__f [] f__c/\h 7=.int .i64 (s_.length:Int)/\h 8=.int .i64 i)/\bs=[]) ?_ k _ _ ?_;rotate_left
  .exact ⟨0,H1,kq hh,rfl⟩
  clear hh h H1;rintro m h bs ⟨i,H1,hh,rfl⟩;rcases m with _|m
  .rw [zay] at H1;cases H1
  rw [zay] at H1;repeat apply dn
  refine rk [0,1,7,8,9] [] hh fun h hh=>?_;rcases isp H1 with ⟨c1,H1⟩|⟨c1,H1⟩;rotate_left
  .skip;repeat apply dn
   refine cf (f2 hh (zAb c1)) ?_;refine xk ?_;cases H1;exact ce (f2 hh ((fun m=>zba (fw m) f__i))) ⟨_,rfl,kq hh,rfl⟩
  repeat apply dn
  refine ct (f2 hh (zAa c1)) ?_;repeat apply dn
  refine sk ?_;repeat apply dn
  apply fc;repeat apply dn
  refine rk [0,1,5,7,8] [] hh fun h hh=>?_;obtain ⟨g2,H1⟩:=isg H1;obtain ⟨r,e3,H1⟩:=zad H1;repeat apply dn
  refine rkp [0,1,5,7,8,16] [] [.bool r] (f2 hh (zae g2)) ?_ ?_
  .exact ⟨ey ((f__h (gx s_ i) r e3).call _),trivial⟩
  clear hh h;intro h hh;rcases isb H1 with ⟨c4,H1⟩|⟨c4,H1⟩;rotate_left
  .skip;repeat apply dn
   refine cf (f2 hh c4) ?_;repeat apply dn
   refine sk ?_;repeat apply dn
   refine rk [0,1,7,8] [] (f2 hh c4) fun h hh=>?_;exact rd m (f2 hh ((fun m=>zba (fw m) f__i))) ⟨(dw.wrap (i+1)),H1,kq hh,rfl⟩
  repeat apply dn
  refine ct (f2 hh c4) ?_;repeat apply dn
  refine rk [4] [] (f2 hh c4) fun h hh=>?_;cases H1;obtain rfl:=sinl H;exact rt hh
 clear hh h;rintro h bs ⟨s_2,rfl,hh,rfl⟩;replace H:=sinr H;repeat apply dn
 refine rk [4] [] hh fun h hh=>?_;cases H;exact rt hh
def zbq (k:Nat) (s_:List (List Rule)) (f_:(List Rule)->Option Bool):Option Bool:=((zb3 k s_ f_).bind fun ah=>some (decide (0<=ah)))
theorem zim (ax:Axs) (hx:NoAx ax) (k:Nat) (s_:List (List Rule)) (f_:(List Rule)->Option Bool) (v:Bool) (H:zbq k s_ f_=some v) (f__f:Nat) (f__c:List T) (f__i:fy 0 f__c=true) (f__h:∀ (y0:List Rule) (w:Bool),f_ y0=some w->Pure Tryz.prog (EE ax) [] f__f ([]++[zcp y0]++f__c) (.bool w)):Pure Tryz.prog (EE ax) [] 40 [zam s_,.fn f__f [] f__c] (.bool v):=by
 rw [zbq] at H;refine en (ha:=by simp only [zfx,zfw,idsA,idsB,idsC,f__i,et]) [.tmp 4] 9 [0,1] (hx.no _ (by decide)) (fn40 ax) ?_;intro h hh;repeat apply dn
 refine rk [0,1] [] hh fun h hh=>?_;obtain ⟨ah,e1,H⟩:=zad H;repeat apply dn
 refine rkp [4] [] [.int .i64 ah] hh ?_ ?_
 .exact ⟨ey ((zj2 ax hx k s_ f_ ah e1 f__f f__c f__i f__h).call _),trivial⟩
 clear hh h;intro h hh;cases H;exact rt hh
def zk9 (k:Nat) (n:Net) (c:zaw):Option Bool:=(if (c.tables.length:Int)=(n.nodes.length:Int) then (if (c.steps.length:Int)<=1000 then ((zbq k c.tables (fun y=>zid k y n c)).bind fun ah=>some (!ah)) else some false) else some false)
theorem zz5 (ax:Axs) (hx:NoAx ax) (k:Nat) (n:Net) (c:zaw) (v:Bool) (H:zk9 k n c=some v):Pure Tryz.prog (EE ax) [] 10 [eNet n,zd5 c] (.bool v):=by
 rw [zk9] at H;refine en [.tmp 4] 25 [0,1] (hx.no _ (by decide)) (fn10 ax) ?_;intro h hh;repeat apply dn
 refine rk [2,3] [] hh fun h hh=>?_;refine zk 2 0 3 true [zbn n.nodes,zbo n.links,zbp n.edges] [2,3] hh fun h hh=>?_;refine zk 3 1 3 true [.int .i64 c.version,zam c.tables,zau c.steps] [2,3] hh fun h hh=>?_;rcases isp H with ⟨c1,H⟩|⟨c1,H⟩;rotate_left
 .skip;repeat apply dn
  refine rk [4] [] (f2 hh (zAb c1)) fun h hh=>?_;cases H;exact rt hh
 rcases isp H with ⟨c2,H⟩|⟨c2,H⟩;rotate_left
 .skip;repeat apply dn
  refine rk [4] [] (f3 hh (zAa c1) (zAb c2)) fun h hh=>?_;cases H;exact rt hh
 obtain ⟨ah,e3,H⟩:=zad H;repeat apply dn
 refine rkp [4] [] [.bool ah] (f3 hh (zAa c1) (zAa c2)) ?_ ?_
 .exact ⟨ey ((zim ax hx k c.tables (fun y=>zid k y n c) ah e3 41 [.cp [zbn n.nodes,zbo n.links,zbp n.edges],.cp [.int .i64 c.version,zam c.tables,zau c.steps]] (by simp only [zfx,zfw,idsA,idsB,idsC,et]) (fun y w hw=>by first|exact zmv ax hx k y n c w hw|exact (zmv ax hx k y n c w hw))).call _),trivial⟩
 clear hh h;intro h hh;cases H;exact rt hh
def zdw (k:Nat) (n:Net) (c:zaw):Nat->Int->Option (Bool ⊕ Unit)
 |0,_=>none
 |m+1,i=>(if i<(c.tables.length:Int) then (if 0<=i/\i<(c.tables.length:Int) then ((zk1 k n (c.steps.length:Int) (gx c.tables i)).bind fun ag=>(if ag.2≠0 then some (.inl false) else zdw k n c m (dw.wrap (i+1)))) else none) else some (.inr ()))
def zkz (k:Nat) (n:Net) (c:zaw):Option Bool:=(((if (c.tables.length:Int)≠(n.nodes.length:Int) then some true else some (decide (1000<(c.steps.length:Int)))):Option Bool).bind fun s_=>(if s_=true then some false else ((zdw k n c k 0:Option (Bool ⊕ Unit)).bind fun o=>gr (fun r=>some r) (fun s_2=>some true) o)))
theorem zct (ax:Axs) (hx:NoAx ax) (k:Nat) (n:Net) (c:zaw) (v:Bool) (H:zkz k n c=some v):Pure Tryz.prog (EE ax) [] 11 [eNet n,zd5 c] (.bool v):=by
 rw [zkz] at H;refine en [.tmp 4] 43 [0,1] (hx.no _ (by decide)) (fn11 ax) ?_;intro h hh;repeat apply dn
 refine rk [2,3] [] hh fun h hh=>?_;obtain ⟨s_,H1,H⟩:=zad H;repeat apply dn
 refine cu [2,3,20] 2 (fun h bs=>(h 2=.ptr 0 0 3/\h 3=.ptr 1 0 3/\h 20=.bool s_)/\bs=[.cells true 3 [zbn n.nodes,zbo n.links,zbp n.edges],.cells true 3 [.int .i64 c.version,zam c.tables,zau c.steps]]) ?_ ?_
 .skip;rcases isp H1 with ⟨c1,H1⟩|⟨c1,H1⟩;rotate_left
  .skip;repeat apply dn
   refine rk [2,3,20] [] (f2 hh (zAb c1)) fun h hh=>?_;cases H1;exact ce hh ⟨kq hh,rfl⟩
  repeat apply dn
  refine rk [2,3,20] [] (f2 hh (zAa c1)) fun h hh=>?_;cases H1;exact ce hh ⟨kq hh,rfl⟩
 clear hh h;rintro h bs ⟨hh,rfl⟩;rcases isb H with ⟨c2,H⟩|⟨c2,H⟩;rotate_left
 .skip;repeat apply dn
  refine cf (f2 hh c2) ?_;repeat apply dn
  refine sk ?_;repeat apply dn
  refine rk [2,3,5] [] (f2 hh c2) fun h hh=>?_;obtain ⟨o,H1,H⟩:=zad H;repeat apply dn
  refine cu [] 2 (fun h bs=>∃ s_2:Unit,o=.inr s_2/\(True)/\bs=[.cells true 3 [zbn n.nodes,zbo n.links,zbp n.edges],.cells true 3 [.int .i64 c.version,zam c.tables,zau c.steps]]) ?_ ?_
  .skip;repeat apply dn
   apply fc;repeat apply dn
   refine gy [2,3,5] (fun m h bs=>∃ (i:Int),zdw k n c m i=some o/\(h 2=.ptr 0 0 3/\h 3=.ptr 1 0 3/\h 5=.int .i64 i)/\bs=[.cells true 3 [zbn n.nodes,zbo n.links,zbp n.edges],.cells true 3 [.int .i64 c.version,zam c.tables,zau c.steps]]) ?_ k _ _ ?_;rotate_left
   .exact ⟨0,H1,kq hh,rfl⟩
   clear hh h H1;rintro m h bs ⟨i,H1,hh,rfl⟩;rcases m with _|m
   .rw [zdw] at H1;cases H1
   rw [zdw] at H1;repeat apply dn
   refine rk [2,3,5,25] [] (f2 hh c2) fun h hh=>?_;rcases isp H1 with ⟨c3,H1⟩|⟨c3,H1⟩;rotate_left
   .skip;repeat apply dn
    refine cf (f2 hh (zAb c3)) ?_;refine xk ?_;cases H1;exact ce hh ⟨_,rfl,kq hh,rfl⟩
   repeat apply dn
   refine ct (f2 hh (zAa c3)) ?_;repeat apply dn
   refine sk ?_;repeat apply dn
   apply fc;obtain ⟨g4,H1⟩:=isg H1;obtain ⟨ag,e5,H1⟩:=zad H1;repeat apply dn
   refine dk 9 [2,3,5,7] [] [] [(.tup [.int .i64 ag.1,.int .i64 ag.2],stL [.cells true 3 [zbn n.nodes,zbo n.links,zbp n.edges],.cells true 3 [.int .i64 c.version,zam c.tables,zau c.steps]])] (f3 hh c2 (zae g4)) trivial ?_ ?_
   .exact ⟨ey (fh (zz0 ax hx k n (c.steps.length:Int) (gx c.tables i) ag e5 ) (by first|rfl|simp only [c2])),trivial⟩
   clear hh h;intro h hh;repeat apply dn
   refine rk [2,3,5,42] [] (f2 hh c2) fun h hh=>?_;rcases isp H1 with ⟨c6,H1⟩|⟨c6,H1⟩;rotate_left
   .skip;repeat apply dn
    refine cf (f2 hh (zAb c6)) ?_;repeat apply dn
    refine sk ?_;repeat apply dn
    refine rk [2,3,5] [] (f2 hh c2) fun h hh=>?_;exact rd m hh ⟨(dw.wrap (i+1)),H1,kq hh,rfl⟩
   repeat apply dn
   refine ct (f2 hh (zAa c6)) ?_;repeat apply dn
   refine rk [4] [] (f2 hh c2) fun h hh=>?_;cases H1;obtain rfl:=sinl H;exact rt hh
  clear hh h;rintro h bs ⟨s_2,rfl,hh,rfl⟩;replace H:=sinr H;repeat apply dn
  refine rk [4] [] (f2 hh c2) fun h hh=>?_;cases H;exact rt hh
 repeat apply dn
 refine ct (f2 hh c2) ?_;repeat apply dn
 refine rk [4] [] (f2 hh c2) fun h hh=>?_;cases H;exact rt hh
def zaz (k:Nat) (s1:List ByteArray) (s2:List ByteArray):Nat->Int->Option (Bool ⊕ Unit)
 |0,_=>none
 |m+1,i=>(if i<(s1.length:Int) then (if 0<=i/\i<(s1.length:Int) then (if 0<=i/\i<(s2.length:Int) then (if (gx s1 i)=(gx s2 i) then zaz k s1 s2 m (dw.wrap (i+1)) else some (.inl false)) else none) else none) else some (.inr ()))
def zc8 (k:Nat) (s1:List ByteArray) (s2:List ByteArray):Option Bool:=(if (s1.length:Int)≠(s2.length:Int) then some false else ((zaz k s1 s2 k 0:Option (Bool ⊕ Unit)).bind fun o=>gr (fun r=>some r) (fun s_=>some true) o))
theorem zln (ax:Axs) (hx:NoAx ax) (k:Nat) (s1:List ByteArray) (s2:List ByteArray) (v:Bool) (H:zc8 k s1 s2=some v):Pure Tryz.prog (EE ax) [] 45 [strs s1,strs s2] (.bool v):=by
 rw [zc8] at H;refine en [.tmp 4] 26 [0,1] (hx.no _ (by decide)) (fn45 ax) ?_;intro h hh;repeat apply dn
 refine rk [0,1] [] hh fun h hh=>?_;repeat apply dn
 refine rk [0,1,10] [] hh fun h hh=>?_;rcases isp H with ⟨c1,H⟩|⟨c1,H⟩;rotate_left
 .skip;repeat apply dn
  refine cf (f2 hh (zAb c1)) ?_;repeat apply dn
  refine sk ?_;repeat apply dn
  refine rk [0,1,12,13] [] hh fun h hh=>?_;obtain ⟨o,H1,H⟩:=zad H;repeat apply dn
  refine cu [] 0 (fun h bs=>∃ s_:Unit,o=.inr s_/\(True)/\bs=[]) ?_ ?_
  .skip;repeat apply dn
   apply fc;repeat apply dn
   refine gy [0,1,12,13] (fun m h bs=>∃ (i:Int),zaz k s1 s2 m i=some o/\(h 0=strs s1/\h 1=strs s2/\h 12=.int .i64 (s1.length:Int)/\h 13=.int .i64 i)/\bs=[]) ?_ k _ _ ?_;rotate_left
   .exact ⟨0,H1,kq hh,rfl⟩
   clear hh h H1;rintro m h bs ⟨i,H1,hh,rfl⟩;rcases m with _|m
   .rw [zaz] at H1;cases H1
   rw [zaz] at H1;repeat apply dn
   refine rk [0,1,12,13,14] [] hh fun h hh=>?_;rcases isp H1 with ⟨c2,H1⟩|⟨c2,H1⟩;rotate_left
   .skip;repeat apply dn
    refine cf (f2 hh (zAb c2)) ?_;refine xk ?_;cases H1;exact ce hh ⟨_,rfl,kq hh,rfl⟩
   repeat apply dn
   refine ct (f2 hh (zAa c2)) ?_;repeat apply dn
   refine sk ?_;repeat apply dn
   apply fc;repeat apply dn
   refine rk [0,1,5,12,13] [] hh fun h hh=>?_;obtain ⟨g3,H1⟩:=isg H1;obtain ⟨g4,H1⟩:=isg H1;repeat apply dn
   refine dk 8 [0,1,12,13,24] [] [] [] (f3 hh (zae g3) (zae g4)) trivial trivial fun h hh=>?_;rcases isp H1 with ⟨c5,H1⟩|⟨c5,H1⟩;rotate_left
   .skip;repeat apply dn
    refine ct (f2 hh (zAb c5)) ?_;repeat apply dn
    refine rk [4] [] hh fun h hh=>?_;cases H1;obtain rfl:=sinl H;exact rt hh
   repeat apply dn
   refine cf (f2 hh (zAa c5)) ?_;repeat apply dn
   refine sk ?_;repeat apply dn
   refine rk [0,1,12,13] [] hh fun h hh=>?_;exact rd m hh ⟨(dw.wrap (i+1)),H1,kq hh,rfl⟩
  clear hh h;rintro h bs ⟨s_,rfl,hh,rfl⟩;replace H:=sinr H;repeat apply dn
  refine rk [4] [] hh fun h hh=>?_;cases H;exact rt hh
 repeat apply dn
 refine ct (f2 hh (zAa c1)) ?_;repeat apply dn
 refine rk [4] [] hh fun h hh=>?_;cases H;exact rt hh
def zhx (k:Nat) (a:zeo) (b:zeo):Option Bool:=(if a.kind=b.kind then (if a.var=b.var then (if a.field=b.field then (if a.n=b.n then (if a.m=b.m then ((zc8 k a.key b.key).bind fun cx=>some cx) else some false) else some false) else some false) else some false) else some false)
theorem zon (ax:Axs) (hx:NoAx ax) (k:Nat) (a:zeo) (b:zeo) (v:Bool) (H:zhx k a b=some v):Pure Tryz.prog (EE ax) [] 44 [zha a,zha b] (.bool v):=by
 rw [zhx] at H;refine en [.tmp 4] 45 [0,1] (hx.no _ (by decide)) (fn44 ax) ?_;intro h hh;repeat apply dn
 refine rk [2,3] [] hh fun h hh=>?_;rcases isp H with ⟨c1,H⟩|⟨c1,H⟩;rotate_left
 .skip;repeat apply dn
  refine rk [4] [] (f2 hh (zAb c1)) fun h hh=>?_;cases H;exact rt hh
 rcases isp H with ⟨c2,H⟩|⟨c2,H⟩;rotate_left
 .skip;repeat apply dn
  refine rk [4] [] (f3 hh (zAa c1) (zAb c2)) fun h hh=>?_;cases H;exact rt hh
 rcases isp H with ⟨c3,H⟩|⟨c3,H⟩;rotate_left
 .skip;repeat apply dn
  refine rk [4] [] (f3 hh (zAa c1) (f2 (zAa c2) (zAb c3))) fun h hh=>?_;cases H;exact rt hh
 rcases isp H with ⟨c4,H⟩|⟨c4,H⟩;rotate_left
 .skip;repeat apply dn
  refine rk [4] [] (f3 hh (zAa c1) (f3 (zAa c2) (zAa c3) (zAb c4))) fun h hh=>?_;cases H;exact rt hh
 rcases isp H with ⟨c5,H⟩|⟨c5,H⟩;rotate_left
 .skip;repeat apply dn
  refine rk [4] [] (f3 hh (zAa c1) (f3 (zAa c2) (zAa c3) (f2 (zAa c4) (zAb c5)))) fun h hh=>?_;cases H;exact rt hh
 obtain ⟨cx,e6,H⟩:=zad H;repeat apply dn
 refine rkp [4] [] [.bool cx] (f3 hh (zAa c1) (f3 (zAa c2) (zAa c3) (f2 (zAa c4) (zAa c5)))) ?_ ?_
 .exact ⟨ey ((zln ax hx k a.key b.key cx e6 ).call _),trivial⟩
 clear hh h;intro h hh;cases H;exact rt hh
def zap (k:Nat) (s1:List (List Rule)) (s2:List (List Rule)) (eq:(List Rule)->(List Rule)->Option Bool):Nat->Int->Option (Bool ⊕ Unit)
 |0,_=>none
 |m+1,i=>(if i<(s1.length:Int) then (if 0<=i/\i<(s1.length:Int) then (if 0<=i/\i<(s2.length:Int) then ((eq (gx s1 i) (gx s2 i)).bind fun r=>(if r=true then zap k s1 s2 eq m (dw.wrap (i+1)) else some (.inl false))) else none) else none) else some (.inr ()))
def zb4 (k:Nat) (s1:List (List Rule)) (s2:List (List Rule)) (eq:(List Rule)->(List Rule)->Option Bool):Option Bool:=(if (s1.length:Int)≠(s2.length:Int) then some false else ((zap k s1 s2 eq k 0:Option (Bool ⊕ Unit)).bind fun o=>gr (fun r=>some r) (fun s_=>some true) o))
theorem zf7 (ax:Axs) (hx:NoAx ax) (k:Nat) (s1:List (List Rule)) (s2:List (List Rule)) (eq:(List Rule)->(List Rule)->Option Bool) (v:Bool) (H:zb4 k s1 s2 eq=some v) (eq_f:Nat) (eq_c:List T) (eq_i:fy 0 eq_c=true) (eq_h:∀ (y0:List Rule) (y1:List Rule) (w:Bool),eq y0 y1=some w->Pure Tryz.prog (EE ax) [] eq_f ([]++[zcp y0,zcp y1]++eq_c) (.bool w)):Pure Tryz.prog (EE ax) [] 46 [zam s1,zam s2,.fn eq_f [] eq_c] (.bool v):=by
 rw [zb4] at H;refine en (ha:=by simp only [zfx,zfw,idsA,idsB,idsC,eq_i,et]) [.tmp 6] 32 [0,1,2] (hx.no _ (by decide)) (fn46 ax) ?_;intro h hh;repeat apply dn
 refine rk [0,1,2] [] hh fun h hh=>?_;repeat apply dn
 refine rk [0,1,2,14] [] hh fun h hh=>?_;rcases isp H with ⟨c1,H⟩|⟨c1,H⟩;rotate_left
 .skip;repeat apply dn
  refine cf (f2 hh (zAb c1)) ?_;repeat apply dn
  refine sk ?_;repeat apply dn
  refine rk [1,2,15,16,17] [] hh fun h hh=>?_;obtain ⟨o,H1,H⟩:=zad H;repeat apply dn
  refine cu [] 0 (fun h bs=>∃ s_:Unit,o=.inr s_/\(True)/\bs=[]) ?_ ?_
  .skip;repeat apply dn
   apply fc;repeat apply dn
   refine gy [1,2,15,16,17] (fun m h bs=>∃ (i:Int),zap k s1 s2 eq m i=some o/\(h 1=zam s2/\h 2=.fn eq_f [] eq_c/\h 15=zam s1/\h 16=.int .i64 (s1.length:Int)/\h 17=.int .i64 i)/\bs=[]) ?_ k _ _ ?_;rotate_left
   .exact ⟨0,H1,kq hh,rfl⟩
   clear hh h H1;rintro m h bs ⟨i,H1,hh,rfl⟩;rcases m with _|m
   .rw [zap] at H1;cases H1
   rw [zap] at H1;repeat apply dn
   refine rk [1,2,15,16,17,18] [] hh fun h hh=>?_;rcases isp H1 with ⟨c2,H1⟩|⟨c2,H1⟩;rotate_left
   .skip;repeat apply dn
    refine cf (f2 hh (zAb c2)) ?_;refine xk ?_;cases H1;exact ce (f2 hh ((fun m=>zba (fw m) eq_i))) ⟨_,rfl,kq hh,rfl⟩
   repeat apply dn
   refine ct (f2 hh (zAa c2)) ?_;repeat apply dn
   refine sk ?_;repeat apply dn
   apply fc;obtain ⟨g3,H1⟩:=isg H1;repeat apply dn
   refine rk [1,2,7,8,15,16,17] [] (f2 hh (zae g3)) fun h hh=>?_;obtain ⟨g4,H1⟩:=isg H1;repeat apply dn
   refine rk [1,2,8,9,15,16,17] [] (f2 hh (zae g4)) fun h hh=>?_;obtain ⟨r,e5,H1⟩:=zad H1;repeat apply dn
   refine rkp [1,2,15,16,17,30] [] [.bool r] hh ?_ ?_
   .exact ⟨ey ((eq_h (gx s1 i) (gx s2 i) r e5).call _),trivial⟩
   clear hh h;intro h hh;rcases isb H1 with ⟨c6,H1⟩|⟨c6,H1⟩;rotate_left
   .skip;repeat apply dn
    refine ct (f2 hh c6) ?_;repeat apply dn
    refine rk [6] [] (f2 hh c6) fun h hh=>?_;cases H1;obtain rfl:=sinl H;exact rt hh
   repeat apply dn
   refine cf (f2 hh c6) ?_;repeat apply dn
   refine sk ?_;repeat apply dn
   refine rk [1,2,15,16,17] [] (f2 hh c6) fun h hh=>?_;exact rd m (f2 hh ((fun m=>zba (fw m) eq_i))) ⟨(dw.wrap (i+1)),H1,kq hh,rfl⟩
  clear hh h;rintro h bs ⟨s_,rfl,hh,rfl⟩;replace H:=sinr H;repeat apply dn
  refine rk [6] [] hh fun h hh=>?_;cases H;exact rt hh
 repeat apply dn
 refine ct (f2 hh (zAa c1)) ?_;repeat apply dn
 refine rk [6] [] hh fun h hh=>?_;cases H;exact rt hh
def zar (k:Nat) (s1:List zeo) (s2:List zeo) (eq:zeo->zeo->Option Bool):Nat->Int->Option (Bool ⊕ Unit)
 |0,_=>none
 |m+1,i=>(if i<(s1.length:Int) then (if 0<=i/\i<(s1.length:Int) then (if 0<=i/\i<(s2.length:Int) then ((eq (gx s1 i) (gx s2 i)).bind fun r=>(if r=true then zar k s1 s2 eq m (dw.wrap (i+1)) else some (.inl false))) else none) else none) else some (.inr ()))
def zcm (k:Nat) (s1:List zeo) (s2:List zeo) (eq:zeo->zeo->Option Bool):Option Bool:=(if (s1.length:Int)≠(s2.length:Int) then some false else ((zar k s1 s2 eq k 0:Option (Bool ⊕ Unit)).bind fun o=>gr (fun r=>some r) (fun s_=>some true) o))
theorem zki (ax:Axs) (hx:NoAx ax) (k:Nat) (s1:List zeo) (s2:List zeo) (eq:zeo->zeo->Option Bool) (v:Bool) (H:zcm k s1 s2 eq=some v) (eq_f:Nat) (eq_c:List T) (eq_i:fy 0 eq_c=true) (eq_h:∀ (y0:zeo) (y1:zeo) (w:Bool),eq y0 y1=some w->Pure Tryz.prog (EE ax) [] eq_f ([]++[zha y0,zha y1]++eq_c) (.bool w)):Pure Tryz.prog (EE ax) [] 48 [zau s1,zau s2,.fn eq_f [] eq_c] (.bool v):=by
 rw [zcm] at H;refine en (ha:=by simp only [zfx,zfw,idsA,idsB,idsC,eq_i,et]) [.tmp 6] 32 [0,1,2] (hx.no _ (by decide)) (fn48 ax) ?_;intro h hh;repeat apply dn
 refine rk [0,1,2] [] hh fun h hh=>?_;repeat apply dn
 refine rk [0,1,2,14] [] hh fun h hh=>?_;rcases isp H with ⟨c1,H⟩|⟨c1,H⟩;rotate_left
 .skip;repeat apply dn
  refine cf (f2 hh (zAb c1)) ?_;repeat apply dn
  refine sk ?_;repeat apply dn
  refine rk [1,2,15,16,17] [] hh fun h hh=>?_;obtain ⟨o,H1,H⟩:=zad H;repeat apply dn
  refine cu [] 0 (fun h bs=>∃ s_:Unit,o=.inr s_/\(True)/\bs=[]) ?_ ?_
  .skip;repeat apply dn
   apply fc;repeat apply dn
   refine gy [1,2,15,16,17] (fun m h bs=>∃ (i:Int),zar k s1 s2 eq m i=some o/\(h 1=zau s2/\h 2=.fn eq_f [] eq_c/\h 15=zau s1/\h 16=.int .i64 (s1.length:Int)/\h 17=.int .i64 i)/\bs=[]) ?_ k _ _ ?_;rotate_left
   .exact ⟨0,H1,kq hh,rfl⟩
   clear hh h H1;rintro m h bs ⟨i,H1,hh,rfl⟩;rcases m with _|m
   .rw [zar] at H1;cases H1
   rw [zar] at H1;repeat apply dn
   refine rk [1,2,15,16,17,18] [] hh fun h hh=>?_;rcases isp H1 with ⟨c2,H1⟩|⟨c2,H1⟩;rotate_left
   .skip;repeat apply dn
    refine cf (f2 hh (zAb c2)) ?_;refine xk ?_;cases H1;exact ce (f2 hh ((fun m=>zba (fw m) eq_i))) ⟨_,rfl,kq hh,rfl⟩
   repeat apply dn
   refine ct (f2 hh (zAa c2)) ?_;repeat apply dn
   refine sk ?_;repeat apply dn
   apply fc;obtain ⟨g3,H1⟩:=isg H1;repeat apply dn
   refine rk [1,2,7,8,15,16,17] [] (f2 hh (zae g3)) fun h hh=>?_;obtain ⟨g4,H1⟩:=isg H1;repeat apply dn
   refine rk [1,2,8,9,15,16,17] [] (f2 hh (zae g4)) fun h hh=>?_;obtain ⟨r,e5,H1⟩:=zad H1;repeat apply dn
   refine rkp [1,2,15,16,17,30] [] [.bool r] hh ?_ ?_
   .exact ⟨ey ((eq_h (gx s1 i) (gx s2 i) r e5).call _),trivial⟩
   clear hh h;intro h hh;rcases isb H1 with ⟨c6,H1⟩|⟨c6,H1⟩;rotate_left
   .skip;repeat apply dn
    refine ct (f2 hh c6) ?_;repeat apply dn
    refine rk [6] [] (f2 hh c6) fun h hh=>?_;cases H1;obtain rfl:=sinl H;exact rt hh
   repeat apply dn
   refine cf (f2 hh c6) ?_;repeat apply dn
   refine sk ?_;repeat apply dn
   refine rk [1,2,15,16,17] [] (f2 hh c6) fun h hh=>?_;exact rd m (f2 hh ((fun m=>zba (fw m) eq_i))) ⟨(dw.wrap (i+1)),H1,kq hh,rfl⟩
  clear hh h;rintro h bs ⟨s_,rfl,hh,rfl⟩;replace H:=sinr H;repeat apply dn
  refine rk [6] [] hh fun h hh=>?_;cases H;exact rt hh
 repeat apply dn
 refine ct (f2 hh (zAa c1)) ?_;repeat apply dn
 refine rk [6] [] hh fun h hh=>?_;cases H;exact rt hh
def zgn (k:Nat) (c:zaw) (d:zaw):Option Bool:=(if c.version=d.version then ((zb4 k c.tables d.tables (fun y y2=>zgy k y y2)).bind fun ah=>(if ah=true then ((zcm k c.steps d.steps (fun y3 y4=>zhx k y3 y4)).bind fun cy=>some cy) else some false)) else some false)
theorem zcc (ax:Axs) (hx:NoAx ax) (k:Nat) (c:zaw) (d:zaw) (v:Bool) (H:zgn k c d=some v):Pure Tryz.prog (EE ax) [] 12 [zd5 c,zd5 d] (.bool v):=by
 rw [zgn] at H;refine en [.tmp 4] 26 [0,1] (hx.no _ (by decide)) (fn12 ax) ?_;intro h hh;repeat apply dn
 refine rk [2,3] [] hh fun h hh=>?_;repeat apply dn
 refine rk [2,3,5] [] hh fun h hh=>?_;rcases isp H with ⟨c1,H⟩|⟨c1,H⟩;rotate_left
 .skip;repeat apply dn
  refine rk [4] [] (f2 hh (zAb c1)) fun h hh=>?_;cases H;exact rt hh
 obtain ⟨ah,e2,H⟩:=zad H;rcases isb H with ⟨c3,H⟩|⟨c3,H⟩;rotate_left
 .skip;repeat apply dn
  refine rkp [4] [] [.bool ah] (f3 hh (zAa c1) c3) ?_ ?_
  .exact ⟨ey (fh (zf7 ax hx k c.tables d.tables (fun y y2=>zgy k y y2) ah e2 47 [] (by simp only [zfx,zfw,idsA,idsB,idsC,et]) (fun y y2 w hw=>by first|exact zh6 ax hx k y y2 w hw|exact (zh6 ax hx k y y2 w hw))) (by first|rfl|simp only [c3])),trivial⟩
  clear hh h;intro h hh;cases H;exact rt hh
 obtain ⟨cy,e4,H⟩:=zad H;repeat apply dn
 refine rkp [4] [] [.bool ah,.bool cy] (f3 hh (zAa c1) c3) ?_ ?_
 .exact ⟨ey (fh (zf7 ax hx k c.tables d.tables (fun y y2=>zgy k y y2) ah e2 47 [] (by simp only [zfx,zfw,idsA,idsB,idsC,et]) (fun y y2 w hw=>by first|exact zh6 ax hx k y y2 w hw|exact (zh6 ax hx k y y2 w hw))) (by first|rfl|simp only [c3])),ey (fh (zki ax hx k c.steps d.steps (fun y3 y4=>zhx k y3 y4) cy e4 44 [] (by simp only [zfx,zfw,idsA,idsB,idsC,et]) (fun y3 y4 w hw=>by first|exact zon ax hx k y3 y4 w hw|exact (zon ax hx k y3 y4 w hw))) (by first|rfl|simp only [c3])),trivial⟩
 clear hh h;intro h hh;cases H;exact rt hh
def zbt (k:Nat) (a:zeo) (b:zeo):Nat->Int->Option (Bool ⊕ Unit)
 |0,_=>none
 |m+1,i=>(if i<(a.key.length:Int) then (if 0<=i/\i<(a.key.length:Int) then (if 0<=i/\i<(b.key.length:Int) then (if (gx a.key i)=(gx b.key i) then zbt k a b m (dw.wrap (i+1)) else some (.inl false)) else none) else none) else some (.inr ()))
def zhe (k:Nat) (a:zeo) (b:zeo):Option Bool:=(((if a.kind≠b.kind then some true else (if a.var=b.var then (if a.field=b.field then (if a.n≠b.n then some true else (if a.m≠b.m then some true else some (decide ((a.key.length:Int)≠(b.key.length:Int))))) else some true) else some true)):Option Bool).bind fun s_=>(if s_=true then some false else ((zbt k a b k 0:Option (Bool ⊕ Unit)).bind fun o=>gr (fun r=>some r) (fun s_2=>some true) o)))
theorem zsx (ax:Axs) (hx:NoAx ax) (k:Nat) (a:zeo) (b:zeo) (v:Bool) (H:zhe k a b=some v):Pure Tryz.prog (EE ax) [] 50 [zha a,zha b] (.bool v):=by
 rw [zhe] at H;refine en [.tmp 4] 66 [0,1] (hx.no _ (by decide)) (fn50 ax) ?_;intro h hh;repeat apply dn
 refine rk [2,3] [] hh fun h hh=>?_;obtain ⟨s_,H1,H⟩:=zad H;repeat apply dn
 refine cu [2,3,47] 2 (fun h bs=>(h 2=.ptr 0 0 6/\h 3=.ptr 1 0 6/\h 47=.bool s_)/\bs=[.cells true 6 [.int .i64 a.kind,.str a.var,strs a.key,.str a.field,.int .i64 a.n,.int .i64 a.m],.cells true 6 [.int .i64 b.kind,.str b.var,strs b.key,.str b.field,.int .i64 b.n,.int .i64 b.m]]) ?_ ?_
 .skip;rcases isp H1 with ⟨c1,H1⟩|⟨c1,H1⟩;rotate_left
  .skip;rcases isp H1 with ⟨c2,H1⟩|⟨c2,H1⟩;rotate_left
   .skip;repeat apply dn
    refine rk [2,3,47] [] (f3 hh (zAb c1) (zAb c2)) fun h hh=>?_;cases H1;exact ce hh ⟨kq hh,rfl⟩
   rcases isp H1 with ⟨c3,H1⟩|⟨c3,H1⟩;rotate_left
   .skip;repeat apply dn
    refine rk [2,3,47] [] (f3 hh (zAb c1) (f2 (zAa c2) (zAb c3))) fun h hh=>?_;cases H1;exact ce hh ⟨kq hh,rfl⟩
   rcases isp H1 with ⟨c4,H1⟩|⟨c4,H1⟩;rotate_left
   .skip;rcases isp H1 with ⟨c5,H1⟩|⟨c5,H1⟩;rotate_left
    .skip;repeat apply dn
     refine rk [2,3,47] [] (f3 hh (zAb c1) (f3 (zAa c2) (zAa c3) (f2 (zAb c4) (zAb c5)))) fun h hh=>?_;cases H1;exact ce hh ⟨kq hh,rfl⟩
    repeat apply dn
    refine rk [2,3,47] [] (f3 hh (zAb c1) (f3 (zAa c2) (zAa c3) (f2 (zAb c4) (zAa c5)))) fun h hh=>?_;cases H1;exact ce hh ⟨kq hh,rfl⟩
   repeat apply dn
   refine rk [2,3,47] [] (f3 hh (zAb c1) (f3 (zAa c2) (zAa c3) (zAa c4))) fun h hh=>?_;cases H1;exact ce hh ⟨kq hh,rfl⟩
  repeat apply dn
  refine rk [2,3,47] [] (f2 hh (zAa c1)) fun h hh=>?_;cases H1;exact ce hh ⟨kq hh,rfl⟩
 clear hh h;rintro h bs ⟨hh,rfl⟩;rcases isb H with ⟨c6,H⟩|⟨c6,H⟩;rotate_left
 .skip;repeat apply dn
  refine cf (f2 hh c6) ?_;repeat apply dn
  refine sk ?_;repeat apply dn
  refine rk [2,3,5] [] (f2 hh c6) fun h hh=>?_;obtain ⟨o,H1,H⟩:=zad H;repeat apply dn
  refine cu [] 2 (fun h bs=>∃ s_2:Unit,o=.inr s_2/\(True)/\bs=[.cells true 6 [.int .i64 a.kind,.str a.var,strs a.key,.str a.field,.int .i64 a.n,.int .i64 a.m],.cells true 6 [.int .i64 b.kind,.str b.var,strs b.key,.str b.field,.int .i64 b.n,.int .i64 b.m]]) ?_ ?_
  .skip;repeat apply dn
   apply fc;repeat apply dn
   refine gy [2,3,5] (fun m h bs=>∃ (i:Int),zbt k a b m i=some o/\(h 2=.ptr 0 0 6/\h 3=.ptr 1 0 6/\h 5=.int .i64 i)/\bs=[.cells true 6 [.int .i64 a.kind,.str a.var,strs a.key,.str a.field,.int .i64 a.n,.int .i64 a.m],.cells true 6 [.int .i64 b.kind,.str b.var,strs b.key,.str b.field,.int .i64 b.n,.int .i64 b.m]]) ?_ k _ _ ?_;rotate_left
   .exact ⟨0,H1,kq hh,rfl⟩
   clear hh h H1;rintro m h bs ⟨i,H1,hh,rfl⟩;rcases m with _|m
   .rw [zbt] at H1;cases H1
   rw [zbt] at H1;repeat apply dn
   refine rk [2,3,5,52] [] (f2 hh c6) fun h hh=>?_;rcases isp H1 with ⟨c7,H1⟩|⟨c7,H1⟩;rotate_left
   .skip;repeat apply dn
    refine cf (f2 hh (zAb c7)) ?_;refine xk ?_;cases H1;exact ce hh ⟨_,rfl,kq hh,rfl⟩
   repeat apply dn
   refine ct (f2 hh (zAa c7)) ?_;repeat apply dn
   refine sk ?_;repeat apply dn
   apply fc;obtain ⟨g8,H1⟩:=isg H1;obtain ⟨g9,H1⟩:=isg H1;repeat apply dn
   refine dk 10 [2,3,5,65] [] [] [] (f3 hh c6 (f2 (zae g8) (zae g9))) trivial trivial fun h hh=>?_;rcases isp H1 with ⟨c10,H1⟩|⟨c10,H1⟩;rotate_left
   .skip;repeat apply dn
    refine ct (f2 hh (zAb c10)) ?_;repeat apply dn
    refine rk [4] [] (f2 hh c6) fun h hh=>?_;cases H1;obtain rfl:=sinl H;exact rt hh
   repeat apply dn
   refine cf (f2 hh (zAa c10)) ?_;repeat apply dn
   refine sk ?_;repeat apply dn
   refine rk [2,3,5] [] (f2 hh c6) fun h hh=>?_;exact rd m hh ⟨(dw.wrap (i+1)),H1,kq hh,rfl⟩
  clear hh h;rintro h bs ⟨s_2,rfl,hh,rfl⟩;replace H:=sinr H;repeat apply dn
  refine rk [4] [] (f2 hh c6) fun h hh=>?_;cases H;exact rt hh
 repeat apply dn
 refine ct (f2 hh c6) ?_;repeat apply dn
 refine rk [4] [] (f2 hh c6) fun h hh=>?_;cases H;exact rt hh
def zdv (k:Nat) (c:zaw) (d:zaw):Nat->Int->Option (Bool ⊕ Unit)
 |0,_=>none
 |m+1,i=>(if i<(c.tables.length:Int) then (if 0<=i/\i<(c.tables.length:Int) then (if 0<=i/\i<(d.tables.length:Int) then ((zmt k (gx c.tables i) (gx d.tables i)).bind fun aj=>(if aj=true then zdv k c d m (dw.wrap (i+1)) else some (.inl false))) else none) else none) else some (.inr ()))
def zdu (k:Nat) (c:zaw) (d:zaw):Nat->Int->Option (Bool ⊕ Unit)
 |0,_=>none
 |m+1,i2=>(if i2<(c.steps.length:Int) then (if 0<=i2/\i2<(c.steps.length:Int) then (if 0<=i2/\i2<(d.steps.length:Int) then ((zhe k (gx c.steps i2) (gx d.steps i2)).bind fun cz=>(if cz=true then zdu k c d m (dw.wrap (i2+1)) else some (.inl false))) else none) else none) else some (.inr ()))
def zky (k:Nat) (c:zaw) (d:zaw):Option Bool:=(((if c.version≠d.version then some true else (if (c.tables.length:Int)≠(d.tables.length:Int) then some true else some (decide ((c.steps.length:Int)≠(d.steps.length:Int))))):Option Bool).bind fun s_=>(if s_=true then some false else ((zdv k c d k 0:Option (Bool ⊕ Unit)).bind fun o2=>gr (fun r=>some r) (fun s_2=>((zdu k c d k 0:Option (Bool ⊕ Unit)).bind fun o=>gr (fun r=>some r) (fun s_3=>some true) o)) o2)))
theorem zep (ax:Axs) (hx:NoAx ax) (k:Nat) (c:zaw) (d:zaw) (v:Bool) (H:zky k c d=some v):Pure Tryz.prog (EE ax) [] 13 [zd5 c,zd5 d] (.bool v):=by
 rw [zky] at H;refine en [.tmp 4] 72 [0,1] (hx.no _ (by decide)) (fn13 ax) ?_;intro h hh;repeat apply dn
 refine rk [2,3] [] hh fun h hh=>?_;obtain ⟨s_,H1,H⟩:=zad H;repeat apply dn
 refine cu [2,3,31] 2 (fun h bs=>(h 2=.ptr 0 0 3/\h 3=.ptr 1 0 3/\h 31=.bool s_)/\bs=[.cells true 3 [.int .i64 c.version,zam c.tables,zau c.steps],.cells true 3 [.int .i64 d.version,zam d.tables,zau d.steps]]) ?_ ?_
 .skip;rcases isp H1 with ⟨c1,H1⟩|⟨c1,H1⟩;rotate_left
  .skip;rcases isp H1 with ⟨c2,H1⟩|⟨c2,H1⟩;rotate_left
   .skip;repeat apply dn
    refine rk [2,3,31] [] (f3 hh (zAb c1) (zAb c2)) fun h hh=>?_;cases H1;exact ce hh ⟨kq hh,rfl⟩
   repeat apply dn
   refine rk [2,3,31] [] (f3 hh (zAb c1) (zAa c2)) fun h hh=>?_;cases H1;exact ce hh ⟨kq hh,rfl⟩
  repeat apply dn
  refine rk [2,3,31] [] (f2 hh (zAa c1)) fun h hh=>?_;cases H1;exact ce hh ⟨kq hh,rfl⟩
 clear hh h;rintro h bs ⟨hh,rfl⟩;rcases isb H with ⟨c3,H⟩|⟨c3,H⟩;rotate_left
 .skip;repeat apply dn
  refine cf (f2 hh c3) ?_;repeat apply dn
  refine sk ?_;repeat apply dn
  refine rk [2,3,5] [] (f2 hh c3) fun h hh=>?_;obtain ⟨o2,H1,H⟩:=zad H;repeat apply dn
  refine cu [2,3] 2 (fun h bs=>∃ s_2:Unit,o2=.inr s_2/\(h 2=.ptr 0 0 3/\h 3=.ptr 1 0 3)/\bs=[.cells true 3 [.int .i64 c.version,zam c.tables,zau c.steps],.cells true 3 [.int .i64 d.version,zam d.tables,zau d.steps]]) ?_ ?_
  .skip;repeat apply dn
   apply fc;repeat apply dn
   refine gy [2,3,5] (fun m h bs=>∃ (i:Int),zdv k c d m i=some o2/\(h 2=.ptr 0 0 3/\h 3=.ptr 1 0 3/\h 5=.int .i64 i)/\bs=[.cells true 3 [.int .i64 c.version,zam c.tables,zau c.steps],.cells true 3 [.int .i64 d.version,zam d.tables,zau d.steps]]) ?_ k _ _ ?_;rotate_left
   .exact ⟨0,H1,kq hh,rfl⟩
   clear hh h H1;rintro m h bs ⟨i,H1,hh,rfl⟩;rcases m with _|m
   .rw [zdv] at H1;cases H1
   rw [zdv] at H1;repeat apply dn
   refine rk [2,3,5,36] [] (f2 hh c3) fun h hh=>?_;rcases isp H1 with ⟨c4,H1⟩|⟨c4,H1⟩;rotate_left
   .skip;repeat apply dn
    refine cf (f2 hh (zAb c4)) ?_;refine xk ?_;cases H1;exact ce hh ⟨_,rfl,kq hh,rfl⟩
   repeat apply dn
   refine ct (f2 hh (zAa c4)) ?_;repeat apply dn
   refine sk ?_;repeat apply dn
   apply fc;obtain ⟨g5,H1⟩:=isg H1;obtain ⟨g6,H1⟩:=isg H1;obtain ⟨aj,e7,H1⟩:=zad H1;repeat apply dn
   refine dk 10 [2,3,5,6] [] [] [(.bool aj,stL [.cells true 3 [.int .i64 c.version,zam c.tables,zau c.steps],.cells true 3 [.int .i64 d.version,zam d.tables,zau d.steps]])] (f3 hh c3 (f2 (zae g5) (zae g6))) trivial ?_ ?_
   .exact ⟨ey (fh (z1y ax hx k (gx c.tables i) (gx d.tables i) aj e7 ) (by first|rfl|simp only [c3])),trivial⟩
   clear hh h;intro h hh;repeat apply dn
   refine rk [2,3,5,51] [] (f2 hh c3) fun h hh=>?_;rcases isb H1 with ⟨c8,H1⟩|⟨c8,H1⟩;rotate_left
   .skip;repeat apply dn
    refine ct (f2 hh c8) ?_;repeat apply dn
    refine rk [4] [] (f3 hh c3 c8) fun h hh=>?_;cases H1;obtain rfl:=sinl H;exact rt hh
   repeat apply dn
   refine cf (f2 hh c8) ?_;repeat apply dn
   refine sk ?_;repeat apply dn
   refine rk [2,3,5] [] (f3 hh c3 c8) fun h hh=>?_;exact rd m hh ⟨(dw.wrap (i+1)),H1,kq hh,rfl⟩
  clear hh h;rintro h bs ⟨s_2,rfl,hh,rfl⟩;replace H:=sinr H;repeat apply dn
  refine rk [2,3,7] [] (f2 hh c3) fun h hh=>?_;obtain ⟨o,H1,H⟩:=zad H;repeat apply dn
  refine cu [] 2 (fun h bs=>∃ s_3:Unit,o=.inr s_3/\(True)/\bs=[.cells true 3 [.int .i64 c.version,zam c.tables,zau c.steps],.cells true 3 [.int .i64 d.version,zam d.tables,zau d.steps]]) ?_ ?_
  .skip;repeat apply dn
   apply fc;repeat apply dn
   refine gy [2,3,7] (fun m h bs=>∃ (i2:Int),zdu k c d m i2=some o/\(h 2=.ptr 0 0 3/\h 3=.ptr 1 0 3/\h 7=.int .i64 i2)/\bs=[.cells true 3 [.int .i64 c.version,zam c.tables,zau c.steps],.cells true 3 [.int .i64 d.version,zam d.tables,zau d.steps]]) ?_ k _ _ ?_;rotate_left
   .exact ⟨0,H1,kq hh,rfl⟩
   clear hh h H1;rintro m h bs ⟨i2,H1,hh,rfl⟩;rcases m with _|m
   .rw [zdu] at H1;cases H1
   rw [zdu] at H1;repeat apply dn
   refine rk [2,3,7,56] [] (f2 hh c3) fun h hh=>?_;rcases isp H1 with ⟨c9,H1⟩|⟨c9,H1⟩;rotate_left
   .skip;repeat apply dn
    refine cf (f2 hh (zAb c9)) ?_;refine xk ?_;cases H1;exact ce hh ⟨_,rfl,kq hh,rfl⟩
   repeat apply dn
   refine ct (f2 hh (zAa c9)) ?_;repeat apply dn
   refine sk ?_;repeat apply dn
   apply fc;obtain ⟨g10,H1⟩:=isg H1;obtain ⟨g11,H1⟩:=isg H1;obtain ⟨cz,e12,H1⟩:=zad H1;repeat apply dn
   refine dk 10 [2,3,7,8] [] [] [(.bool cz,stL [.cells true 3 [.int .i64 c.version,zam c.tables,zau c.steps],.cells true 3 [.int .i64 d.version,zam d.tables,zau d.steps]])] (f3 hh c3 (f2 (zae g10) (zae g11))) trivial ?_ ?_
   .exact ⟨ey (fh (zsx ax hx k (gx c.steps i2) (gx d.steps i2) cz e12 ) (by first|rfl|simp only [c3])),trivial⟩
   clear hh h;intro h hh;repeat apply dn
   refine rk [2,3,7,71] [] (f2 hh c3) fun h hh=>?_;rcases isb H1 with ⟨c13,H1⟩|⟨c13,H1⟩;rotate_left
   .skip;repeat apply dn
    refine ct (f2 hh c13) ?_;repeat apply dn
    refine rk [4] [] (f3 hh c3 c13) fun h hh=>?_;cases H1;obtain rfl:=sinl H;exact rt hh
   repeat apply dn
   refine cf (f2 hh c13) ?_;repeat apply dn
   refine sk ?_;repeat apply dn
   refine rk [2,3,7] [] (f3 hh c3 c13) fun h hh=>?_;exact rd m hh ⟨(dw.wrap (i2+1)),H1,kq hh,rfl⟩
  clear hh h;rintro h bs ⟨s_3,rfl,hh,rfl⟩;replace H:=sinr H;repeat apply dn
  refine rk [4] [] (f2 hh c3) fun h hh=>?_;cases H;exact rt hh
 repeat apply dn
 refine ct (f2 hh c3) ?_;repeat apply dn
 refine rk [4] [] (f2 hh c3) fun h hh=>?_;cases H;exact rt hh
noncomputable def arr2 (ax:Axs) (a b:T):Option T:=zku (EE ax) (fun x=>match x with|.tmp 0=>a|_=>b) 60 [(0,.tmp 0),(9,.tmp 1)]
theorem bd60 (ax:Axs):∀ (ρ:d8->T) (x y:d8),zku (EE ax) ρ 60 [(0,x),(9,y)]=arr2 ax (ρ x) (ρ y):=fun _ _ _=>rfl
theorem be60 (ax:Axs):∀ a b:Int,arr2 ax (.int .i64 a) (.int .i64 b)=some (.agg ((((zA 10).set 0 a).set 9 b).l.map (dy .i64))):=fun _ _=>rfl
theorem z98 (ax:Axs):(∀ (ρ:d8->T) (x y:d8),zku (EE ax) ρ 60 [(0,x),(9,y)]=arr2 ax (ρ x) (ρ y))/\(∀ a b:Int,arr2 ax (.int .i64 a) (.int .i64 b)=some (.agg ((((zA 10).set 0 a).set 9 b).l.map (dy .i64)))):=⟨bd60 ax,be60 ax⟩
def zk8 (k:Nat) (r:Rule):Option (Spot×Bool):=(if (0:Int)<=0/\0<(10:Int) then (if (0:Int)<=9/\9<(10:Int) then (if (gx r.mat.mask.l 0)=65535 then some ((⟨gx r.mat.bits.l 0,gx r.mat.bits.l 9⟩:Spot),(decide ((gx r.mat.mask.l 9)=65535))) else some ((⟨gx r.mat.bits.l 0,gx r.mat.bits.l 9⟩:Spot),false)) else none) else none)
theorem zp0 (ax:Axs) (hx:NoAx ax) (k:Nat) (r:Rule) (v:Spot×Bool) (H:zk8 k r=some v):Pure Tryz.prog (EE ax) [] 52 [ze9 r] (tupT [zd8 v.1,.bool v.2]):=by
 rw [zk8] at H;refine enN [.cell 2 106,.tmp 3] 24 [0] (hx.no _ (by decide)) (fn52 ax) ?_;intro h hh;repeat apply dn
 refine rk [1,2] [] hh fun h hh=>?_;repeat apply dn
 refine rk [2,4] [] hh fun h hh=>?_;obtain ⟨g1,H⟩:=isg H;obtain ⟨g2,H⟩:=isg H;rcases isp H with ⟨c3,H⟩|⟨c3,H⟩;rotate_left
 .skip;repeat apply dn
  refine ds 17 [(2,some 1),(20,some 920)] [2,3] [] [] [] (f3 hh (zAb c3) (f3 (zmi (k:=.i64) (off:=10) (L:=(r.mat.mask.l.map (dy .i64)++(r.mat.bits.l.map (dy .i64)))) (r:=[]) r.mat.bits g1) (zmi (k:=.i64) (off:=10) (L:=(r.mat.mask.l.map (dy .i64)++(r.mat.bits.l.map (dy .i64)))) (r:=[]) r.mat.bits g2) (zkr (k:=.i64) (L:=(r.mat.mask.l.map (dy .i64)++(r.mat.bits.l.map (dy .i64)))) (r:=(r.mat.bits.l.map (dy .i64))) r.mat.mask g1))) trivial trivial fun h hh=>?_;cases H;exact rtc hh
 repeat apply dn
 refine ds 17 [(2,some 1),(20,some 2)] [2,3] [] [] [] (f3 hh (zAa c3) (f3 (zmi (k:=.i64) (off:=10) (L:=(r.mat.mask.l.map (dy .i64)++(r.mat.bits.l.map (dy .i64)))) (r:=[]) r.mat.bits g1) (zmi (k:=.i64) (off:=10) (L:=(r.mat.mask.l.map (dy .i64)++(r.mat.bits.l.map (dy .i64)))) (r:=[]) r.mat.bits g2) (f2 (zkr (k:=.i64) (L:=(r.mat.mask.l.map (dy .i64)++(r.mat.bits.l.map (dy .i64)))) (r:=(r.mat.bits.l.map (dy .i64))) r.mat.mask g1) (zkr (k:=.i64) (L:=(r.mat.mask.l.map (dy .i64)++(r.mat.bits.l.map (dy .i64)))) (r:=(r.mat.bits.l.map (dy .i64))) r.mat.mask g2)))) trivial trivial fun h hh=>?_;cases H;exact rtc hh
def zf2 (k:Nat) (s_:Spot):Option Pat:=some (⟨(((zA 10).set 0 65535).set 9 65535),(((zA 10).set 0 s_.port).set 9 s_.tag)⟩:Pat)
theorem zoa (ax:Axs) (hx:NoAx ax) (k:Nat) (s_:Spot) (v:Pat) (H:zf2 k s_=some v):Pure Tryz.prog (EE ax) [] 61 [zd8 s_] (ePat v):=by
 rw [zf2] at H;refine en [.cell 2 101] 12 [0] (hx.no _ (by decide)) (fn61 ax) ?_;intro h hh;repeat apply dn
 refine rk [1,2] [] hh fun h hh=>?_;repeat apply dn
 refine rk [1,2,3] [] (f2 hh (z98 ax)) fun h hh=>?_;repeat apply dn
 refine rk [2] [] (f2 hh (z98 ax)) fun h hh=>?_;cases H;exact rtc hh
def zfq (k:Nat) (s_:Spot) (r:Rule):Option Bool:=((zf2 k s_).bind fun bz=>((ze1 k r.mat bz).bind fun bk=>some bk))
theorem zpz (ax:Axs) (hx:NoAx ax) (k:Nat) (s_:Spot) (r:Rule) (v:Bool) (H:zfq k s_ r=some v):Pure Tryz.prog (EE ax) [] 55 [zd8 s_,ze9 r] (.bool v):=by
 rw [zfq] at H;refine en [.tmp 4] 10 [0,1] (hx.no _ (by decide)) (fn55 ax) ?_;intro h hh;repeat apply dn
 refine rk [2,3] [] hh fun h hh=>?_;obtain ⟨bz,e1,H⟩:=zad H;obtain ⟨bk,e2,H⟩:=zad H;repeat apply dn
 refine dk 4 [4] [ePat bz] [] [(.bool bk,stL [.cells true 2 [.int .i64 s_.port,.int .i64 s_.tag],.cells true 23 (dy .i64 r.prio :: (r.mat.mask.l.map (dy .i64)++(r.mat.bits.l.map (dy .i64)++[dy .i64 r.step,zf4 r.outs])))])] hh ?_ ?_ ?_
 .exact ⟨(zoa ax hx k s_ bz e1 ).call _,trivial⟩
 .exact ⟨ey ((zmd ax hx k r.mat bz bk e2 ).call _),trivial⟩
 clear hh h;intro h hh;cases H;exact rt hh
def zfd (k:Nat) (r:Rule) (fv:Spot):Option Bool:=((zk8 k r).bind fun ak=>(if ak.2=true then some false else ((zfq k fv r).bind fun da=>some da)))
theorem zre (ax:Axs) (hx:NoAx ax) (k:Nat) (r:Rule) (fv:Spot) (v:Bool) (H:zfd k r fv=some v):Pure Tryz.prog (EE ax) [] 54 [ze9 r,.cp [.int .i64 fv.port,.int .i64 fv.tag]] (.bool v):=by
 rw [zfd] at H;refine en [.tmp 3] 18 [0,1] (hx.no _ (by decide)) (fn54 ax) ?_;intro h hh;repeat apply dn
 refine rk [1,2] [] hh fun h hh=>?_;obtain ⟨ak,e1,H⟩:=zad H;repeat apply dn
 refine rkc [1,2,5] [] [(.tup [zd8 ak.1,.bool ak.2],stL [.cells true 23 (dy .i64 r.prio :: (r.mat.mask.l.map (dy .i64)++(r.mat.bits.l.map (dy .i64)++[dy .i64 r.step,zf4 r.outs])))])] hh ?_ ?_
 .exact ⟨ey ((zp0 ax hx k r ak e1 ).call _),trivial⟩
 clear hh h;intro h hh;rcases isb H with ⟨c2,H⟩|⟨c2,H⟩;rotate_left
 .skip;obtain ⟨da,e3,H⟩:=zad H;repeat apply dn
  refine rkp [3] [] [.bool da] (f2 hh c2) ?_ ?_
  .exact ⟨ey (fh (zpz ax hx k fv r da e3 ) (by first|rfl|simp only [c2])),trivial⟩
  clear hh h;intro h hh;cases H;exact rt hh
 repeat apply dn
 refine rk [3] [] (f2 hh c2) fun h hh=>?_;cases H;exact rt hh
def za0 (k:Nat) (s_:List Rule) (f_:Rule->Option Bool):Nat->Int->Option (Int ⊕ Unit)
 |0,_=>none
 |m+1,i=>(if i<(s_.length:Int) then (if 0<=i/\i<(s_.length:Int) then ((f_ (gx s_ i)).bind fun r=>(if r=true then some (.inl i) else za0 k s_ f_ m (dw.wrap (i+1)))) else none) else some (.inr ()))
def zck (k:Nat) (s_:List Rule) (f_:Rule->Option Bool):Option Int:=((za0 k s_ f_ k 0:Option (Int ⊕ Unit)).bind fun o=>gr (fun r=>some r) (fun s_2=>some (-1)) o)
theorem zkg (ax:Axs) (hx:NoAx ax) (k:Nat) (s_:List Rule) (f_:Rule->Option Bool) (v:Int) (H:zck k s_ f_=some v) (f__f:Nat) (f__c:List T) (f__i:fy 0 f__c=true) (f__h:∀ (y0:Rule) (w:Bool),f_ y0=some w->Pure Tryz.prog (EE ax) [] f__f ([]++[ze9 y0]++f__c) (.bool w)):Pure Tryz.prog (EE ax) [] 89 [zcp s_,.fn f__f [] f__c] (.int .i64 v):=by
 rw [zck] at H;refine en (ha:=by simp only [zfx,zfw,idsA,idsB,idsC,f__i,et]) [.tmp 4] 19 [0,1] (hx.no _ (by decide)) (fn89 ax) ?_;intro h hh;repeat apply dn
 refine rk [0,1] [] hh fun h hh=>?_;repeat apply dn
 refine rk [0,1,7,8] [] hh fun h hh=>?_;obtain ⟨o,H1,H⟩:=zad H;repeat apply dn
 refine cu [] 0 (fun h bs=>∃ s_2:Unit,o=.inr s_2/\(True)/\bs=[]) ?_ ?_
 .skip;repeat apply dn
  apply fc;repeat apply dn
  refine gy [0,1,7,8] (fun m h bs=>∃ (i:Int),za0 k s_ f_ m i=some o/\(h 0=zcp s_/\h 1=.fn f__f [] f__c/\h 7=.int .i64 (s_.length:Int)/\h 8=.int .i64 i)/\bs=[]) ?_ k _ _ ?_;rotate_left
  .exact ⟨0,H1,kq hh,rfl⟩
  clear hh h H1;rintro m h bs ⟨i,H1,hh,rfl⟩;rcases m with _|m
  .rw [za0] at H1;cases H1
  rw [za0] at H1;repeat apply dn
  refine rk [0,1,7,8,9] [] hh fun h hh=>?_;rcases isp H1 with ⟨c1,H1⟩|⟨c1,H1⟩;rotate_left
  .skip;repeat apply dn
   refine cf (f2 hh (zAb c1)) ?_;refine xk ?_;cases H1;exact ce (f2 hh ((fun m=>zba (fw m) f__i))) ⟨_,rfl,kq hh,rfl⟩
  repeat apply dn
  refine ct (f2 hh (zAa c1)) ?_;repeat apply dn
  refine sk ?_;repeat apply dn
  apply fc;repeat apply dn
  refine rk [0,1,5,7,8] [] hh fun h hh=>?_;obtain ⟨g2,H1⟩:=isg H1;obtain ⟨r,e3,H1⟩:=zad H1;repeat apply dn
  refine rkp [0,1,5,7,8,16] [] [.bool r] (f2 hh (zae g2)) ?_ ?_
  .exact ⟨ey ((f__h (gx s_ i) r e3).call _),trivial⟩
  clear hh h;intro h hh;rcases isb H1 with ⟨c4,H1⟩|⟨c4,H1⟩;rotate_left
  .skip;repeat apply dn
   refine cf (f2 hh c4) ?_;repeat apply dn
   refine sk ?_;repeat apply dn
   refine rk [0,1,7,8] [] (f2 hh c4) fun h hh=>?_;exact rd m (f2 hh ((fun m=>zba (fw m) f__i))) ⟨(dw.wrap (i+1)),H1,kq hh,rfl⟩
  repeat apply dn
  refine ct (f2 hh c4) ?_;repeat apply dn
  refine rk [4] [] (f2 hh c4) fun h hh=>?_;cases H1;obtain rfl:=sinl H;exact rt hh
 clear hh h;rintro h bs ⟨s_2,rfl,hh,rfl⟩;replace H:=sinr H;repeat apply dn
 refine rk [4] [] hh fun h hh=>?_;cases H;exact rt hh
def zbc (k:Nat) (s_:List Rule) (f_:Rule->Option Bool):Option Bool:=((zck k s_ f_).bind fun bj=>some (decide (0<=bj)))
theorem zi0 (ax:Axs) (hx:NoAx ax) (k:Nat) (s_:List Rule) (f_:Rule->Option Bool) (v:Bool) (H:zbc k s_ f_=some v) (f__f:Nat) (f__c:List T) (f__i:fy 0 f__c=true) (f__h:∀ (y0:Rule) (w:Bool),f_ y0=some w->Pure Tryz.prog (EE ax) [] f__f ([]++[ze9 y0]++f__c) (.bool w)):Pure Tryz.prog (EE ax) [] 53 [zcp s_,.fn f__f [] f__c] (.bool v):=by
 rw [zbc] at H;refine en (ha:=by simp only [zfx,zfw,idsA,idsB,idsC,f__i,et]) [.tmp 4] 9 [0,1] (hx.no _ (by decide)) (fn53 ax) ?_;intro h hh;repeat apply dn
 refine rk [0,1] [] hh fun h hh=>?_;obtain ⟨bj,e1,H⟩:=zad H;repeat apply dn
 refine rkp [4] [] [.int .i64 bj] hh ?_ ?_
 .exact ⟨ey ((zkg ax hx k s_ f_ bj e1 f__f f__c f__i f__h).call _),trivial⟩
 clear hh h;intro h hh;cases H;exact rt hh
def exB (r:Rule):Bool:=decide (gx r.mat.mask.l 0=65535) && decide (gx r.mat.mask.l 9=65535)
def za2 (r:Rule):Spot:=⟨gx r.mat.bits.l 0,gx r.mat.bits.l 9⟩
theorem z9e (k:Nat) (r:Rule):zk8 k r=some (za2 r,exB r):=by
  rw [zk8,zAc (by omega),zAc (by omega)];unfold za2 exB;split<;>simp_all
def addS (s:Spot) (i:Int):List (Spot×List Int)->List (Spot×List Int)
  |[]=>[(s,[i])]
  |(s',l) :: r=>if s=s' then (s',l++[i]) :: r else (s',l) :: addS s i r
def coll:List Rule->Int->List (Spot×List Int)->List (Spot×List Int)
  |[],_,a=>a
  |r :: l,i,a=>coll l (i+1) (if exB r=true then addS (za2 r) i a else a)
def yeg (k:Nat) (t:List Rule):List (Spot×List Int)->Option (List zgk)
  |[]=>some []
  |(s,l) :: r=>(zbc k t (fun x=>zfd k x s)).bind fun m=>(yeg k t r).bind fun q=>some (if m=true then q else ⟨s.port,s.tag,l⟩ :: q)
def zie (k:Nat) (t:List Rule):Option (List zgk):=if t.length<1000000 then yeg k t (coll t 0 []) else none
theorem z4b:∀ (l:List Rule) (r:Rule) (i:Int) (a:List (Spot×List Int)),coll (l++[r]) i a=if exB r=true then addS (za2 r) (i+(l.length:Int)) (coll l i a) else coll l i a
  |[],r,i,a=>by simp [coll]
  |x :: l,r,i,a=>by
    rw [fd,coll,coll,z4b l r (i+1)];have e:i+1+(l.length:Int)=i+((x :: l).length:Int):=by rw [eh];omega
    rw [e]
theorem yai (s:Spot) (i:Int):∀ a:List (Spot×List Int),(addS s i a).length<=a.length+1
  |[]=>dz _
  |(s',l) :: r=>by
    unfold addS;split
    . simp
    . have:=yai s i r;simp only [eh];omega
theorem z05:∀ (l:List Rule) (i:Int) (a:List (Spot×List Int)),(coll l i a).length<=a.length+l.length
  |[],i,a=>dz _
  |x :: l,i,a=>by
    rw [coll];have h1:=z05 l (i+1) (if exB x=true then addS (za2 x) i a else a)
    have h2:(if exB x=true then addS (za2 x) i a else a).length<=a.length+1:=by
      split
      . exact yai _ _ _
      . omega
    rw [eh];omega
theorem yhs {s:Spot} {i:Int}:∀ {a:List (Spot×List Int)} {n:Nat},(∀ p,p∈a->p.2.length<=n)->∀ p,p∈addS s i a->p.2.length<=n+1
  |[],n,h,p,hp=>by simp [addS] at hp;subst hp;simp
  |(s',l) :: r,n,h,p,hp=>by
    unfold addS at hp;split at hp
    . rcases ib.1 hp with rfl|hp
      . have:=h _ (.head _);simp only [er,List.length_singleton];simp only at this;omega
      . exact Nat.le_succ_of_le (h p (.tail _ hp))
    . rcases ib.1 hp with rfl|hp
      . exact Nat.le_succ_of_le (h _ (.head _))
      . exact yhs (fun p hp=>h p (.tail _ hp)) p hp
theorem yg8:∀ (l:List Rule) (i:Int) (a:List (Spot×List Int)) (n:Nat),(∀ p,p∈a->p.2.length<=n)->∀ p,p∈coll l i a->p.2.length<=n+l.length
  |[],i,a,n,h=>h
  |x :: l,i,a,n,h=>by
    rw [coll,eh]
    have:=yg8 l (i+1) (if exB x=true then addS (za2 x) i a else a) (n+1) (by
      split
      . exact yhs h
      . exact fun p hp=>Nat.le_succ_of_le (h p hp))
    intro p hp;have:=this p hp;omega
theorem yhr {s:Spot} {i:Int}:∀ {a:List (Spot×List Int)},(∀ p,p∈a->p.2≠[])->∀ p,p∈addS s i a->p.2≠[]
  |[],h,p,hp=>by simp [addS] at hp;subst hp;simp
  |(s',l) :: r,h,p,hp=>by
    unfold addS at hp;split at hp
    . rcases ib.1 hp with rfl|hp
      . simp
      . exact h p (.tail _ hp)
    . rcases ib.1 hp with rfl|hp
      . exact h _ (.head _)
      . exact yhr (fun p hp=>h p (.tail _ hp)) p hp
theorem yg7:∀ (l:List Rule) (i:Int) (a:List (Spot×List Int)),(∀ p,p∈a->p.2≠[])->∀ p,p∈coll l i a->p.2≠[]
  |[],i,a,h=>h
  |x :: l,i,a,h=>by
    rw [coll];refine yg7 l _ _ ?_;split
    . exact yhr h
    . exact h
def entT (b:Nat->Nat):Nat->List (Spot×List Int)->List (T×T)
  |_,[]=>[]
  |j,(s,l) :: r=>(zd8 s,.arr (b j) 1 0 l.length l.length l.length) :: entT b (j+1) r
def kV (s:Spot):Value:=.agg ⟨[.int .i64 s.port,.int .i64 s.tag]⟩
theorem yar:zg2 Tryz.prog 10000 106=some (true,[.int .i64,.int .i64]):=by kernel_rfl
theorem ynj (s:Spot):lu 10000 (kV s) (kV s)=true:=by
  show lu (9998+1+1) (kV s) (kV s)=true;simp [lu,kV]
theorem yc0 (s s':Spot):eqW Tryz.prog 106 (kV s) (kV s')=some (decide (s=s')):=by
  have h:=ymd (P:=Tryz.prog) 10000 yar (xs:=[.int .i64 s.port,.int .i64 s.tag]) (ys:=[.int .i64 s'.port,.int .i64 s'.tag]) (by simp [zfi,ckV]) (by simp [zfi,ckV])
  have e:zch Tryz.prog (Op.equal 106 (kV s) (kV s'))=some (decide (s=s')):=by
    refine h.trans ?_;obtain ⟨p,t⟩:=s;obtain ⟨p',t'⟩:=s';simp [eqVs,zso];by_cases h1:p=p'<;>by_cases h2:t=t'<;>simp [h1,h2]
  unfold eqW;rw [e];by_cases hs:s=s'
  . subst hs;rw [zAa rfl];simp only;rw [ynj,za7]
  . rw [zAb hs]
theorem z7a (ax:Axs) (s:Spot):eqK Tryz.prog (EE ax) 106 (kV s)=some (eqW Tryz.prog 106 (kV s)):=by
  have h1:zsv (EE ax) 106=true:=by unfold zsv;rw [z46];rfl
  have h2:keyV (EE ax) 106 (kV s)=false:=zvb h1;have h3:∀ b,keyC Tryz.prog b 106 (kV s)=true:=fun b=>by cases b<;>rfl
  unfold eqK;rw [h2,h1,zla];unfold keyW;rw [h3,h3];rfl
def zqv (s:Spot):List (Spot×List Int)->Nat->Option (Nat×List Int)
  |[],_=>none
  |(s',l) :: r,j=>if s=s' then some (j,l) else zqv s r (j+1)
theorem zyx {s:Spot}:∀ {a:List (Spot×List Int)} {j k:Nat} {l:List Int},zqv s a j=some (k,l)->j<=k/\a[k - j]?=some (s,l)/\∀ i,addS s i a=a.set (k - j) (s,l++[i])
  |[],j,k,l,h=>by simp [zqv] at h
  |(s',l') :: r,j,k,l,h=>by
    unfold zqv at h;split at h
    . rename_i hs;simp only [dp,Prod.mk.injEq] at h;obtain ⟨rfl,rfl⟩:=h;subst hs;refine ⟨dz _,by simp,fun i=>?_⟩;rw [addS,zAc rfl];simp
    . rename_i hs;obtain ⟨h1,h2,h3⟩:=zyx h;have e:k - j=(k - (j+1))+1:=by omega
      refine ⟨by omega,by rw [e,List.getElem?_cons_succ];exact h2,fun i=>?_⟩;rw [addS,zAd hs,e,ke,h3]
theorem zyy {s:Spot}:∀ {a:List (Spot×List Int)} {j:Nat},zqv s a j=none->∀ i,addS s i a=a++[(s,[i])]
  |[],j,h=>fun i=>rfl
  |(s',l') :: r,j,h=>by
    unfold zqv at h;split at h
    . simp at h
    . rename_i hs;intro i;rw [addS,zAd hs,zyy h i];rfl
def arrT (b:Nat->Nat) (p:Nat×List Int):Nat×T:=(p.1,.arr (b p.1) 1 0 p.2.length p.2.length p.2.length)
theorem zmp (s:Spot) (b:Nat->Nat):∀ (a:List (Spot×List Int)) (j:Nat),zo2 (eqW Tryz.prog 106 (kV s)) (entT b j a) j=some ((zqv s a j).map (arrT b))
  |[],j=>rfl
  |(s',l) :: r,j=>by
    have hk:zot (zd8 s')=some (kV s'):=rfl;rw [entT,zo2,hk];simp only;rw [yc0,zqv];by_cases hs:s=s'
    . rw [zAa hs,zAc hs];rfl
    . rw [zAb hs,zAd hs];exact zmp s b r (j+1)
theorem ye7 (ax:Axs):zqf (EE ax) 98=some (106,37):=by unfold zqf;rw [ti98]
theorem zu6 (ax:Axs) (S:TS) (x:T) (l:List T) (ok:Bool):zed (EE ax) S 98 x (.agg l) ok=none:=by
  unfold zed;rw [ti98];simp only;unfold zjx;rw [z46];rfl
theorem ypu (ax:Axs) (S:TS):∀ x y:d8,tBin Tryz.prog (EE ax) S 37 .eql x y .nils .nils=some (.bool true):=fun x y=>by
  unfold tBin;simp only [ti37];rfl
theorem ypv (ax:Axs) {S:TS} {b N n:Nat} {z:Bool} {l:List T} (h:S.box b=.cells z N l) (hN:0<N):∀ x y:d8,tBin Tryz.prog (EE ax) S 37 .eql x y (.arr b 1 0 n n N) .nils=some (.bool false):=fun x y=>by
  unfold tBin;simp only [ti37]
  have:tNil S (.slice 3) (.arr b 1 0 n n N)=some false:=by
    show (bif S.has b N && Nat.blt 0 N then some false else none)=_;have e:S.has b N=true:=by unfold TS.has;rw [h];exact gw N
    rw [e,zac.2 hN];rfl
  rw [this];rfl
theorem zu5 (ax : Axs) {S : TS} {m : List (T × T)} (hm : S.box 0 = .map m) (s : Spot) : zh5 Tryz.prog (EE ax) S 98 (.mp 0) (.agg [.int .i64 s.port, .int .i64 s.tag]) false = match zo2 (eqW Tryz.prog 106 (kV s)) m 0 with
    |some r=>some (zsm false .nils (r.map (·.2)))
    |none=>none:=by
  have hk:zot (.agg [.int .i64 s.port,.int .i64 s.tag])=some (kV s):=rfl;have hw:zsv (EE ax) 106=true:=by unfold zsv;rw [z46];rfl
  have hz:zfk ⟨.slice 3,1,24,[.slice none 0 0]⟩=some .nils:=rfl;unfold zh5;rw [ye7,hk];simp only;rw [hw,za7,z7a,ti37];simp only [hz,hm];cases zo2 (eqW Tryz.prog 106 (kV s)) m 0<;>rfl
theorem zy1 (ax : Axs) {S : TS} {m : List (T × T)} (hm : S.box 0 = .map m) (s : Spot) : zh9 Tryz.prog (EE ax) S 98 (.agg [.int .i64 s.port, .int .i64 s.tag]) (.mp 0) = match zo2 (eqW Tryz.prog 106 (kV s)) m 0 with
    |some f=>some (tEnt m .nils f,S.set 0 (.map (yck m (zd8 s) (yj9 .nils f) f)))
    |none=>none:=by
  have hk:zot (.agg [.int .i64 s.port,.int .i64 s.tag])=some (kV s):=rfl;have hz:zfk ⟨.slice 3,1,24,[.slice none 0 0]⟩=some .nils:=rfl;unfold zh9;rw [ye7,hk];simp only;rw [z7a,ti37];simp only [hm,hz];cases zo2 (eqW Tryz.prog 106 (kV s)) m 0<;>rfl
theorem z9j (b:Nat->Nat):∀ (a:List (Spot×List Int)) (j:Nat),(entT b j a).length=a.length
  |[],j=>rfl
  |(s,l) :: r,j=>by rw [entT,eh,eh,z9j b r]
theorem z31 (b:Nat->Nat) (s:Spot) (l:List Int):∀ (a:List (Spot×List Int)) (j:Nat),entT b j (a++[(s,l)])=entT b j a++[(zd8 s,.arr (b (j+a.length)) 1 0 l.length l.length l.length)]
  |[],j=>rfl
  |(s',l') :: r,j=>by
    rw [fd,entT,entT,z31 b s l r,eh,show j+1+r.length=j+(r.length+1) by omega];rfl
theorem zy3 {b b':Nat->Nat}:∀ (a:List (Spot×List Int)) (j:Nat),(∀ k,j<=k->k<j+a.length->b k=b' k)->entT b j a=entT b' j a
  |[],j,h=>rfl
  |(s,l) :: r,j,h=>by
    rw [entT,entT,h j (dz _) (by simp),zy3 r (j+1) fun k h1 h2=>h k (by omega) (by rw [eh];omega)]
theorem z9i (b:Nat->Nat) (s:Spot) (l:List Int):∀ (a:List (Spot×List Int)) (j k:Nat),k<a.length->entT b j (a.set k (s,l))=(entT b j a).set k (zd8 s,.arr (b (j+k)) 1 0 l.length l.length l.length)
  |[],j,k,h=>by simp at h
  |(s',l') :: r,j,0,h=>rfl
  |(s',l') :: r,j,k+1,h=>by
    rw [ke,entT,entT,z9i b s l r (j+1) k (by simpa using h),ke,show j+1+k=j+(k+1) by omega]
structure BInv (S:TS) (a:List (Spot×List Int)) (b:Nat->Nat):Prop where
  map:S.box 0=.map (entT b 0 a)
  ord:S.box 1=.cells false (a.length*2) (vecC zd8 (a.map (·.1)))
  val:∀ j p,a[j]?=some p->S.box (b j)=.cells false p.2.length (p.2.map (dy .i64))
  inj:∀ j j',j<a.length->j'<a.length->b j=b j'->j=j'
  at_:∀ j,j<a.length->2<=b j/\b j<S.n
  two:2<=S.n
theorem BInv.ext {S S1:TS} {a:List (Spot×List Int)} {b:Nat->Nat} (h:BInv S a b) (hn:S.n<=S1.n) (hb:∀ c,c<S.n->S1.box c=S.box c):BInv S1 a b:=by
  have h2:=h.two;refine ⟨by rw [hb 0 (by omega)];exact h.map,by rw [hb 1 (by omega)];exact h.ord,fun j p hj=>?_,h.inj,fun j hj=>⟨(h.at_ j hj).1,ei (h.at_ j hj).2 hn⟩,by omega⟩
  have hjl:j<a.length:=by
    rcases o8 j a.length with q|q
    . exact q
    . rw [List.getElem?_eq_none q] at hj;simp at hj
  rw [hb _ (h.at_ j hjl).2];exact h.val j p hj
section
variable {ax:Axs} {N:Nat} {h h':Nat->T} {S S':TS} {Q:Exit->(Nat->T)->TS->Prop} {F:Prop} {C:(Nat->T)->Prop} {R:(Nat->T)->Prop}
theorem TSas {S:TS} {d c:Nat} {x y:Box} (h:c≠S.n) (h2:c≠d):((S.set d y).add x).box c=S.box c:=by
  rw [ld _ _ (show c≠(S.set d y).n from h),gl _ _ h2]
theorem z61 (S:TS) (x:Box):(S.add x).n=S.n+1:=d6 rfl rfl
theorem z60 (S:TS) (b:Nat) (x:Box):(S.set b x).n=S.n:=d6 rfl rfl
theorem zpe {x:TypeId} {y z:d8}:zb6 (.mapEntry x y z)=false:=d6 rfl rfl
theorem zl1 {x:TypeId} {y z w:d8}:zb6 (.entryStore x y z w)=false:=d6 rfl rfl
theorem rkS {id:Nat} {ops:Array Oper} {ob:Prop} {S3:TS} (K own:List Nat) (outs:List (T×TS)) (f:F) (ho:ob) (hq:∀ h2,C h2->R h2) (hd:zfa N ops.toList=true:=by kernel_rfl) (hr:F->runT Tryz.prog (EE ax) [] own ops.toList ops.toList h S outs=some (ob,h',S3):=by intro q;simp (maxSteps:=900000) (disch:=first|omega|decide | (simp only [lzA,ek,iv];done)|fail) only [l8,g0,z61,z60,ld,gl,ynq,ynr,zo8,zls,zpe,zl1,b0,b1,b2,b3,b4,b5,b6,b7,b8,ek,gt,ej,i6,reduceIte,reduceCtorEq,tB0,tB1,tB2,tB3,zhr,zhq,zgc,zoe,zof,zog,zoh,dq,aggO,zfb,zdn,zkq,zah,zd7,zao,zan,zbv,ze6,ew,fm,io,zb8,zb7,zc2,zbg,zbf,zdd,zda,za9,zjx,zea,zd9,zdc,zc9,zdb,zfk,zec,zeb,zge,zgd,ziw,zgg,ziv,ziz,zgi,ziy,q,eqA,eqB,eqsA,eqsB,apA,apB,tSrc];with_reducible rfl) (hC:F->∀ h2,KP h' h2 K->C h2:=by intro q h2 k;simp only [KP,zcf,ej,reduceIte,f6,gc,q] at k;first|exact k|exact trivial) (hR:∀ h2,R h2->Q .normal h2 (S3):=by intro h2 k;first | (simp only [onT,onTB];exact k)|exact k):TW Tryz.prog (EE ax) [] N (.region id ops false) h S Q :=
  TW.region (zl4 ax) own outs hd (hr f) ho (hR _ (hq _ (hC f _ (KP.refl _ K))))
theorem rdS {id:Nat} {ops:Array Oper} {ob1 ob2:Prop} {S3:TS} {h1:Nat->T} (n:Nat) (K:List Nat) (outsP:List T) (own:List Nat) (outs:List (T×TS)) (f:F) (ho1:ob1) (ho2:ob2) (hq:∀ h2,C h2->R h2) (hd:zfa N ops.toList=true:=by kernel_rfl) (hok:ziu n ops.toList=true:=by kernel_rfl) (hp:F->runP Tryz.prog (EE ax) [] ops.toList (ops.toList.take n) h S outsP=some (ob1,h1):=by intro q;simp (maxSteps:=900000) (disch:=first|omega|decide | (simp only [lzA,ek,iv];done)|fail) only [l8,g0,z61,z60,ld,gl,ynq,ynr,zo8,zls,zpe,zl1,b0,b1,b2,b3,b4,b5,b6,b7,b8,ek,gt,ej,i6,reduceIte,reduceCtorEq,tB0,tB1,tB2,tB3,zhr,zhq,zgc,zoe,zof,zog,zoh,dq,aggO,zfb,zdn,zkq,zah,zd7,zao,zan,zbv,ze6,ew,fm,io,zb8,zb7,zc2,zbg,zbf,zdd,zda,za9,zjx,zea,zd9,zdc,zc9,zdb,zfk,zec,zeb,zge,zgd,ziw,zgg,ziv,ziz,zgi,ziy,q,eqA,eqB,eqsA,eqsB,apA,apB,tSrc];with_reducible rfl) (hr:F->runT Tryz.prog (EE ax) [] own ops.toList (ops.toList.drop n) h1 S outs=some (ob2,h',S3):=by intro q;simp (maxSteps:=900000) (disch:=first|omega|decide | (simp only [lzA,ek,iv];done)|fail) only [l8,g0,z61,z60,ld,gl,ynq,ynr,zo8,zls,zpe,zl1,b0,b1,b2,b3,b4,b5,b6,b7,b8,ek,gt,ej,i6,reduceIte,reduceCtorEq,tB0,tB1,tB2,tB3,zhr,zhq,zgc,zoe,zof,zog,zoh,dq,aggO,zfb,zdn,zkq,zah,zd7,zao,zan,zbv,ze6,ew,fm,io,zb8,zb7,zc2,zbg,zbf,zdd,zda,za9,zjx,zea,zd9,zdc,zc9,zdb,zfk,zec,zeb,zge,zgd,ziw,zgg,ziv,ziz,zgi,ziy,q,eqA,eqB,eqsA,eqsB,apA,apB,tSrc];with_reducible rfl) (hC:F->∀ h2,KP h' h2 K->C h2:=by intro q h2 k;simp only [KP,zcf,ej,reduceIte,f6,gc,q] at k;first|exact k|exact trivial) (hR:∀ h2,R h2->Q .normal h2 (S3):=by intro h2 k;first | (simp only [onT,onTB];exact k)|exact k):TW Tryz.prog (EE ax) [] N (.region id ops true) h S Q :=
  TW.draw (zl4 ax) n outsP own outs hd hok (hp f) ho1 (hr f) ho2 (hR _ (hq _ (hC f _ (KP.refl _ K))))
end
theorem TRel.freezeM {GL:List (Nat×List Value)} {A:Nat->Prop} {β:Bx} {S:TS} {s:CS} (hT:TRel GL A β S s) {bm b e len M j:Nat} {z:Bool} {cs:List T} {l:List (T×T)} {k:T} (L:List T) (hm:S.box bm=.map l) (hj:l[j]?=some (k,.arr b e 0 len len M)) (hS:S.box b=.cells z M cs) (he:0<e) (hoff:0+len*e<=M) (hL:(cs.drop 0).take (len*e)=L.flatMap T.cells) (hs:∀ t,t∈L->t.cells.length=e) (hlen:L.length=len) :
    ∃ A' β',TRel GL A' β' ((S.set b .gone).set bm (.map (l.set j (k,.lst e L)))) s/\Stp A β s A' β' s:=by
  have hne:bm≠b:=fun hh=>by rw [hh,hS] at hm;cases hm
  obtain ⟨A',β',k1,k2,k3⟩:=hT.freeze hS;obtain ⟨r,es,q1,q2,q3⟩:=hT.maps bm l hm;obtain ⟨v,w,g1,g2,g3⟩:=VM.get q3 hj;have hw:=k3 g3 he hoff hL hs hlen (dz _);have hv:=k2.vt hT g2;obtain ⟨r',es',p1,p2,p3⟩:=k1.maps bm l (by rw [gl _ _ hne];exact hm)
  have hr:r'=r:=by
    obtain ⟨l2,h1,h2⟩:=k2.bx bm _ q1;rw [p1] at h1;cases h1;exact h2.symm
  subst hr;have hes:es'=es:=by rw [q2] at p2;cases p2;rfl
  subst hes;have hvm:=VM.set hv hw j p3
  have hse:es'.set j (v,w)=es':=by
    apply nh;intro q;rw [ou];split
    . rename_i hq;subst hq;rw [zAc (d9.1 g1).1,g1]
    . rfl
  rw [hse] at hvm;refine ⟨A',β',⟨k1.inr,k1.inv,k1.alt,k1.dis,k1.inj,k1.next,fun b' z' N' l' hb=>?_,fun b' l' hb=>?_,k1.glob⟩,k2⟩
  . by_cases hbb:b'=bm
    . subst hbb;rw [g0] at hb;cases hb
    . rw [gl _ _ hbb] at hb;exact k1.cells b' z' N' l' hb
  . by_cases hbb:b'=bm
    . subst hbb;rw [g0] at hb;cases hb;exact ⟨r',es',p1,p2,hvm⟩
    . rw [gl _ _ hbb] at hb;exact k1.maps b' l' hb
theorem TW.freezeM {P:Program} {Γ:Env} {GL:List (Nat×List Value)} {N:Nat} {h:Nat->T} {S:TS} {Q:Exit->(Nat->T)->TS->Prop} {c:Code} {bm b e len M j:Nat} {z:Bool} {cs:List T} {l:List (T×T)} {k:T} (L:List T) (hm:S.box bm=.map l) (hj:l[j]?=some (k,.arr b e 0 len len M)) (hS:S.box b=.cells z M cs) (he:0<e) (hoff:0+len*e<=M) (hL:(cs.drop 0).take (len*e)=L.flatMap T.cells) (hs:∀ t,t∈L->t.cells.length=e) (hlen:L.length=len)
    (k:TW P Γ GL N c h ((S.set b .gone).set bm (.map (l.set j (k,.lst e L)))) Q):TW P Γ GL N c h S Q:=by
  intro A β fr s hF hT;obtain ⟨A',β',k1,k2⟩:=hT.freezeM L hm hj hS he hoff hL hs hlen;have hF':FrOk A' β' (zaa s.obj) N h fr:=⟨hF.nt,hF.le,fun u=>k2.vt hT (hF.slot u)⟩;refine (k A' β' fr s hF' k1).mono ?_;rintro e2 fr2 s2 ⟨h2,S2,l2,q2⟩;exact ⟨h2,S2,Left.trans (h':=h) (fr':=fr) hT.le k2 l2,q2⟩
def entZ:List (Spot×List Int)->List (T×T)
  |[]=>[]
  |(s,l) :: r=>(zd8 s,ints l) :: entZ r
theorem z9h:∀ a:List (Spot×List Int),(entZ a).length=a.length
  |[]=>rfl
  |(s,l) :: r=>by rw [entZ,eh,eh,z9h r]
theorem z30 (s:Spot) (l:List Int):∀ a:List (Spot×List Int),entZ (a++[(s,l)])=entZ a++[(zd8 s,ints l)]
  |[]=>rfl
  |(s',l') :: r=>by rw [fd,entZ,entZ,z30 s l r];rfl
theorem yf0 {ax:Axs} {N:Nat} {h:Nat->T} {Q:Exit->(Nat->T)->TS->Prop} {c:Code} {a:List (Spot×List Int)} {b:Nat->Nat} {x:Box}:∀ (n k:Nat) (S:TS),k+n=a.length->S.box 0=.map (entZ (a.take k)++entT b k (a.drop k))->(∀ j p,k<=j->a[j]?=some p->S.box (b j)=.cells false p.2.length (p.2.map (dy .i64)))->(∀ j j',j<a.length->j'<a.length->b j=b j'->j=j')->(∀ j,j<a.length->2<=b j)->S.box 1=x ->
    (∀ S':TS,S'.n=S.n->S'.box 0=.map (entZ a)->S'.box 1=x->TW Tryz.prog (EE ax) [] N c h S' Q)->TW Tryz.prog (EE ax) [] N c h S Q
  |0,k,S,hk,hm,hv,hi,h2,h1,K=>by
    refine K S rfl ?_ h1;rw [hm,fk (by omega),il (by omega)];rw [entT,fj]
  |n+1,k,S,hk,hm,hv,hi,h2,h1,K=>by
    have hkl:k<a.length:=by omega
    obtain ⟨⟨s,l⟩,hp⟩:∃ p,a[k]=p:=⟨_,rfl⟩;have hak:a[k]?=some (s,l):=by rw [dv hkl,hp]
    have hd:a.drop k=(s,l) :: a.drop (k+1):=by rw [jr hkl,hp]
    have ht:a.take (k+1)=a.take k++[(s,l)]:=by rw [List.take_add_one,hak];rfl
    have hlk:(entZ (a.take k)).length=k:=by rw [z9h,fi];omega
    have hbk:=h2 k hkl;rw [hd,entT] at hm;have hval:=hv k _ (dz _) hak;refine TW.freezeM (bm:=0) (b:=b k) (e:=1) (len:=l.length) (M:=l.length) (j:=k) (k:=zd8 s) (l.map (dy .i64)) hm (by rw [fq (by omega),hlk,Nat.sub_self];rfl) hval (by omega) (by omega) ?_ ?_ (by simp) ?_
    . rw [fp,fk (by simp),zfz fun _=>rfl]
    . intro t ht;simp only [jq] at ht;obtain ⟨i,_,rfl⟩:=ht;rfl
    . refine yf0 n (k+1) _ (by omega) ?_ (fun j p hj hp=>?_) hi h2 ?_ fun S' e1 e2 e3=>K S' e1 e2 e3
      . rw [g0,ht,z30,List.set_append_right _ _ (by omega),hlk,Nat.sub_self,List.set_cons_zero,fe];rfl
      . have hjl:j<a.length:=(d9.1 hp).1;have:=h2 j hjl;rw [gl _ _ (by omega),gl _ _ (fun hh=>by have:=hi _ _ hjl hkl hh;omega)];exact hv j p (by omega) hp
      . rw [gl _ _ (by omega),gl _ _ (by omega)];exact h1
theorem zwh (s:Spot) (i:Int):∀ a:List (Spot×List Int),(addS s i a).map (·.1)=if s∈a.map (·.1) then a.map (·.1) else a.map (·.1)++[s]
  |[]=>by simp [addS]
  |(s',l) :: r=>by
    unfold addS;by_cases h:s=s'
    . subst h;rw [zAc rfl];simp
    . rw [zAd h,gb,zwh s i r];by_cases h2:s∈r.map (·.1)
      . rw [zAc h2,zAc (by rw [gb];exact .tail _ h2)];rfl
      . rw [zAd h2,zAd (by
          rw [gb];intro q;rcases ib.1 q with q|q
          . exact h q
          . exact h2 q)];rfl
theorem zzc:∀ (l:List Rule) (i:Int) (a:List (Spot×List Int)),(a.map (·.1)).Nodup->((coll l i a).map (·.1)).Nodup
  |[],i,a,h=>h
  |x :: l,i,a,h=>by
    rw [coll];refine zzc l _ _ ?_;split
    . rw [zwh];split
      . exact h
      . rename_i hn;rw [List.nodup_append];exact ⟨h,by simp,fun x hx y hy hxy=>hn (by simp at hy;rw [<- hy,<- hxy];exact hx)⟩
    . exact h
theorem z9c {s:Spot} {l:List Int}:∀ {a:List (Spot×List Int)} {i j:Nat},(a.map (·.1)).Nodup->a[i]?=some (s,l)->zqv s a j=some (j+i,l)
  |[],i,j,_,h=>by simp at h
  |(s',l') :: r,0,j,_,h=>by
    simp at h;obtain ⟨rfl,rfl⟩:=h;rw [zqv,zAc rfl];rfl
  |(s',l') :: r,i+1,j,hn,h=>by
    rw [gb,List.nodup_cons] at hn;have hm:r[i]?=some (s,l):=by simpa using h
    have hne:s≠s':=fun hh=>hn.1 (by rw [<- hh];exact jq.2 ⟨(s,l),gi hm,rfl⟩);rw [zqv,zAd hne,z9c hn.2 hm,show j+1+i=j+(i+1) by omega]
theorem zxc (s:Spot):∀ (a:List (Spot×List Int)) (j:Nat),zo2 (eqW Tryz.prog 106 (kV s)) (entZ a) j=some ((zqv s a j).map fun p=>(p.1,ints p.2))
  |[],j=>rfl
  |(s',l) :: r,j=>by
    have hk:zot (zd8 s')=some (kV s'):=rfl;rw [entZ,zo2,hk];simp only;rw [yc0,zqv];by_cases hs:s=s'
    . rw [zAa hs,zAc hs];rfl
    . rw [zAb hs,zAd hs];exact zxc s r (j+1)
theorem zud (ax:Axs) (hx:NoAx ax) (k:Nat) (t:List Rule) (v:List zgk) (H:zie k t=some v):Pure Tryz.prog (EE ax) [] 20 [zcp t] (zmg v):=by
  unfold zie at H;obtain ⟨hlen,H⟩:=isg H;refine en [.tmp 2] 68 [0] (hx.no _ (by decide)) (fn20 ax) ?_;intro h hh;repeat apply dn
  refine rk [0] [] hh fun h hh=>?_;repeat apply dn
  refine rk [0,3] [] hh fun h hh=>?_;repeat apply dn
  refine rk [0,3,4] [] hh fun h hh=>?_;repeat apply dn
  refine rk [0,3,4,14,15,16] [] hh fun h hh=>?_;refine TW.vec 4 2 hh.2.2.1 ?_;have hb0:BInv ((stL [.map []]).add (.cells false 0 [])) [] (fun _=>0):=⟨rfl,rfl,fun j p hj=>by simp at hj,fun j j' hj=>absurd hj (Nat.not_lt_zero _),fun j hj=>absurd hj (Nat.not_lt_zero _),dz _⟩;refine TW.mono (Q:=fun e h' S'=>e=.normal/\∃ b,BInv S' (coll t 0 []) b/\h' 0=zcp t/\h' 3=.mp 0/\h' 4=.arr 1 2 0 (coll t 0 []).length (coll t 0 []).length ((coll t 0 []).length*2)) ?_ ?_
  . apply fc;refine TW.loop (fun m h S=>∃ (i:Nat) (b:Nat->Nat),m+i=t.length/\BInv S (coll (t.take i) 0 []) b/\h 0=zcp t/\h 3=.mp 0/\h 4=.arr 1 2 0 (coll (t.take i) 0 []).length (coll (t.take i) 0 []).length ((coll (t.take i) 0 []).length*2)/\h 14=.lst 23 (t.map ze9)/\h 15=.int .i64 (t.length:Int)/\h 16=.int .i64 (i:Int)) ?_ t.length _ _ ?_;rotate_left
    . refine ⟨0,fun _=>0,by omega,hb0,?_⟩;obtain ⟨q1,q2,q3,q4,q5,q6⟩:=hh;exact ⟨q1,q2,rfl,q4,q5,q6⟩
    clear hb0 hh h;rintro m h S ⟨i,b,hmi,hB,hh⟩;repeat apply dn
    generalize ha:coll (t.take i) 0 []=a at hB hh;refine rkS [0,3,4,14,15,16,17] [] [] hh trivial fun h hh=>?_;by_cases c:(i:Int)<t.length
    rotate_left
    . repeat apply dn
      refine cf (f2 hh (zAb c)) ?_;refine TW.exit ?_;refine ⟨rfl,b,?_,?_⟩
      . have:t.take i=t:=fk (by omega);rw [this] at ha;rw [ha];exact hB
      . have:t.take i=t:=fk (by omega);rw [this] at ha;rw [ha];exact ⟨hh.1,hh.2.1,hh.2.2.1⟩
    have hi:i<t.length:=by omega
    repeat apply dn
    refine ct (f2 hh (zAa c)) ?_;repeat apply dn
    refine sk ?_;repeat apply dn
    refine TW.mono (Q:=fun e h' S'=>e=.normal/\∃ b',BInv S' (coll (t.take (i+1)) 0 []) b'/\h' 0=zcp t/\h' 3=.mp 0/\h' 4=.arr 1 2 0 (coll (t.take (i+1)) 0 []).length (coll (t.take (i+1)) 0 []).length ((coll (t.take (i+1)) 0 []).length*2)/\h' 14=.lst 23 (t.map ze9)/\h' 15=.int .i64 (t.length:Int)/\h' 16=.int .i64 (i:Int)) ?_ ?_;rotate_left
    . rintro e h2 S2 ⟨rfl,bb,hB2,hh2⟩;refine rkS [0,3,4,14,15,16] [] [] hh2 trivial ?_;clear hh2 h2;intro h2 hh2;refine ⟨m - 1,by omega,i+1,bb,by omega,hB2,?_⟩;have:dw.wrap ((i:Int)+1)=((i+1:Nat):Int):=by rw [wr64 (by omega)];omega
      rw [this] at hh2;exact hh2
    apply fc;repeat apply dn
    have hti:t[i]?=some t[i]:=dv hi;generalize hr:t[i]=r at hti;refine rkS [0,3,4,5,6,14,15,16] [] [] (f3 hh hB.map hti) trivial fun h hh=>?_;generalize hS1:TS.set _ _ _=S1;have en1:S1.n=S.n+1:=by rw [<- hS1];rfl
    have en0:=hB.two;have eb1:S1.box S.n=.cells true 23 (dy .i64 r.prio :: (r.mat.mask.l.map (dy .i64)++(r.mat.bits.l.map (dy .i64)++[dy .i64 r.step,zf4 r.outs]))):=by rw [<- hS1,g0];rfl
    have hB1:BInv S1 a b:=hB.ext (by omega) fun c hc=>by rw [<- hS1,gl _ _ (by omega),ld _ _ (by omega)]
    clear hS1 hB;repeat apply dn
    refine rkS [0,3,4,5,7,8,14,15,16] [] [(.tup [zd8 (za2 r),.bool (exB r)],S1)] (f3 hh eb1 (z46 ax)) ?_ ?_
    . exact ⟨ey ((zp0 ax hx k r _ (z9e k r)).call _),trivial⟩
    clear hh h;intro h hh;generalize hS2:TS.set _ _ _=S2;have en2:S2.n=S1.n+1:=by rw [<- hS2];rfl
    generalize hs:za2 r=s at hS2 hh;have eb2:S2.box S1.n=.cells true 2 [.int .i64 s.port,.int .i64 s.tag]:=by rw [<- hS2,g0]
    have hB2:BInv S2 a b:=hB1.ext (by omega) fun c hc=>by rw [<- hS2,gl _ _ (by omega),ld _ _ (by omega)]
    clear hS2 eb1 hB1
    have hnext:coll (t.take (i+1)) 0 []=if exB r=true then addS s i a else a:=by
      rw [<- ha,<- hs,List.take_add_one,hti];have hl:(t.take i).length=i:=by rw [fi];omega
      have:=z4b (t.take i) r 0 [];rw [hl] at this;simpa using this
    repeat apply dn
    refine rkS [0,3,4,5,7,8,14,15,16,26] [] [] hh trivial fun h hh=>?_
    cases he:exB r with
    |false =>
      rw [he] at hh hnext;refine cf hh ?_;refine sk ?_;rw [hnext];exact ⟨by first|rfl|trivial,b,hB2,hh.1,hh.2.1,hh.2.2.1,hh.2.2.2.2.2.2.1,hh.2.2.2.2.2.2.2.1,hh.2.2.2.2.2.2.2.2.1⟩
    |true =>
      rw [he] at hh hnext;refine ct hh ?_
      have hal:a.length<1000000:=by
        have:=z05 (t.take i) 0 [];rw [ha,fi] at this;simp at this;omega
      have hlp:∀ p,p∈a->p.2.length<1000000:=fun p hp=>by
        have:=yg8 (t.take i) 0 [] 0 (fun p hp=>by simp at hp) p (by rw [ha];exact hp);rw [fi] at this;omega
      cases hf:zqv s a 0 with
      |none =>
        have hlook:zh5 Tryz.prog (EE ax) S2 98 (.mp 0) (.agg [.int .i64 s.port,.int .i64 s.tag]) false=some .nils:=by
          rw [zu5 ax hB2.map,zmp,hf];rfl
        repeat apply dn
        refine rkS [0,3,4,5,7,14,15,16,30] [] [] (f3 hh eb2 (f3 (zu6 ax S2) hlook (ypu ax S2))) trivial fun h hh=>?_;repeat apply dn
        refine ct hh ?_;refine rkS [0,3,4,5,7,14,15,16] [] [] (f3 hh eb2 (f3 hB2.ord (el99 ax) (sr99 ax))) trivial fun h hh=>?_;generalize hS3:TS.set _ _ _=S3;have en3:S3.n=S2.n:=by rw [<- hS3];rfl
        have eb3:S3.box S1.n=.cells true 2 [.int .i64 s.port,.int .i64 s.tag]:=by rw [<- hS3,gl _ _ (by have:=hB2.two;omega)];exact eb2
        have em3:S3.box 0=.map (entT b 0 a):=by rw [<- hS3,gl _ _ (by omega)];exact hB2.map
        have eo3:S3.box 1=.cells false (a.length*2+2) (vecC zd8 (a.map (·.1))++[.int .i64 s.port,.int .i64 s.tag]):=by rw [<- hS3,g0]
        have ex3:∀ c,c≠1->S3.box c=S2.box c:=fun c hc=>by rw [<- hS3,gl _ _ hc]
        clear hS3 eb2 hlook
        have hent:zh9 Tryz.prog (EE ax) S3 98 (.agg [.int .i64 s.port,.int .i64 s.tag]) (.mp 0)=some (.tup [.nils,.int .i64 (.ofNat (entT b 0 a).length)],S3.set 0 (.map (entT b 0 a++[(zd8 s,.nils)]))):=by
          rw [zy1 ax em3,zmp,hf];rfl
        have hst:∀ (x:T) (y:Box),zfm ((S3.set 0 (.map (entT b 0 a++[(.agg [.int .i64 s.port,.int .i64 s.tag],.nils)]))).add y) (.int .i64 (.ofNat (entT b 0 a).length)) x (.mp 0)=some (((S3.set 0 (.map (entT b 0 a++[(.agg [.int .i64 s.port,.int .i64 s.tag],.nils)]))).add y).set 0 (.map (entT b 0 a++[(zd8 s,x)]))):=fun x y=>by
          simp only [zfm];rw [ld _ _ (show 0≠(S3.set 0 (.map (entT b 0 a++[(.agg [.int .i64 s.port,.int .i64 s.tag],.nils)]))).n by show 0≠S3.n;omega),g0];simp only;rw [fq (dz _)];simp [zd8]
        refine rkS [0,3,4,14,15,16] [] [] (f3 hh eb3 (f3 hent hst (f3 (el37 ax) (sr37 ax) en3))) trivial fun h hh=>?_;rw [hnext,zAc rfl,zyy hf];have hlen:(a++[(s,[(i:Int)])]).length=a.length+1:=by simp
        refine ⟨trivial,fun j=>if j=a.length then S2.n else b j,⟨?_,?_,fun j p hj=>?_,fun j j' hj hj' hjj=>?_,fun j hj=>?_,?_⟩,?_⟩
        . rw [g0,z31,fz,zAc rfl];congr 1;rw [zy3 (b':=fun j=>if j=a.length then S2.n else b j) a 0 fun k _ hk=>(zAd (by omega)).symm];rfl
        . rw [gl _ _ (by omega),TSas (show 1≠S3.n by have:=hB2.two;omega) (by omega),eo3,hlen,List.map_append,zc5,show (a.length+1)*2=a.length*2+2 by omega];rfl
        . rcases o8 j a.length with q|q
          . rw [List.getElem?_append_left q] at hj;have hj2:=hB2.at_ j q;simp only [zAd (Nat.ne_of_lt q)];rw [gl _ _ (by omega),TSas (show b j≠S3.n by omega) (by omega),ex3 _ (by omega)];exact hB2.val j p hj
          . have hj0:j=a.length:=by
              have:=(d9.1 hj).1;rw [hlen] at this;omega
            subst hj0;simp at hj;subst hj;rw [zAc rfl,gl _ _ (by have:=hB2.two;omega),<- en3];exact l8 _ _
        . rw [hlen] at hj hj';split at hjj<;>split at hjj
          . omega
          . have:=(hB2.at_ j' (by omega)).2;omega
          . have:=(hB2.at_ j (by omega)).2;omega
          . exact hB2.inj j j' (by omega) (by omega) hjj
        . rw [hlen] at hj;show 2<=(if j=a.length then S2.n else b j)/\(if j=a.length then S2.n else b j)<S3.n+1;split
          . have:=hB2.two;omega
          . have:=hB2.at_ j (by omega);omega
        . show 2<=S3.n+1;omega
        . rw [hlen,show (a.length+1)*2=a.length*2+2 by omega];exact hh
      |some p =>
        obtain ⟨j,l⟩:=p;obtain ⟨_,hj,hadd⟩:=zyx hf;rw [Nat.sub_zero] at hj hadd
        have hlook:zh5 Tryz.prog (EE ax) S2 98 (.mp 0) (.agg [.int .i64 s.port,.int .i64 s.tag]) false=some (.arr (b j) 1 0 l.length l.length l.length):=by
          rw [zu5 ax hB2.map,zmp,hf];rfl
        have hval:=hB2.val j _ hj;simp only at hval;have hl0:0<l.length:=List.length_pos_iff.2 (by rw [<- ha] at hj;exact yg7 _ _ _ (fun p hp=>by simp at hp) _ (gi hj));repeat apply dn
        refine rkS [0,3,4,5,7,14,15,16,30] [] [] (f3 hh eb2 (f3 (zu6 ax S2) hlook (ypv ax (n:=l.length) hval hl0))) trivial fun h hh=>?_;have hjl:j<a.length:=(d9.1 hj).1;have hbj:=hB2.at_ j hjl;have hll:l.length<1000000:=hlp _ (gi hj)
        have hent:zh9 Tryz.prog (EE ax) S2 98 (.agg [.int .i64 s.port,.int .i64 s.tag]) (.mp 0)=some (.tup [.arr (b j) 1 0 l.length l.length l.length,.int .i64 (.ofNat j)],S2.set 0 (.map ((entT b 0 a).set j (zd8 s,.arr (b j) 1 0 l.length l.length l.length)))):=by
          rw [zy1 ax hB2.map,zmp,hf];rfl
        have hst:∀ (x:T) (y:Box),zfm ((S2.set 0 (.map ((entT b 0 a).set j (.agg [.int .i64 s.port,.int .i64 s.tag],.arr (b j) 1 0 l.length l.length l.length)))).set (b j) y) (.int .i64 (.ofNat j)) x (.mp 0)=some (((S2.set 0 (.map ((entT b 0 a).set j (.agg [.int .i64 s.port,.int .i64 s.tag],.arr (b j) 1 0 l.length l.length l.length)))).set (b j) y).set 0 (.map ((entT b 0 a).set j (zd8 s,x)))):=fun x y=>by
          simp only [zfm];rw [gl _ _ (show 0≠b j by omega),g0];simp only;rw [List.getElem?_set_self (by rw [z9j];exact hjl)];simp [zd8]
        repeat apply dn
        refine cf hh ?_;refine sk ?_;repeat apply dn
        refine rkS [0,3,4,14,15,16] [] [] (f3 hh eb2 (f3 hent hst (f3 (el37 ax) (sr37 ax) hval))) trivial fun h hh=>?_;rw [hnext,zAc rfl,hadd];have hlen:(a.set j (s,l++[(i:Int)])).length=a.length:=by simp
        refine ⟨trivial,b,⟨?_,?_,fun j' p hj'=>?_,fun j j' hj hj'=>hB2.inj j j' (by rw [hlen] at hj;exact hj) (by rw [hlen] at hj';exact hj'),fun j hj=>hB2.at_ j (by rw [hlen] at hj;exact hj),hB2.two⟩,?_⟩
        . rw [g0,z9i _ _ _ _ _ _ hjl,fz];simp [zd8]
        . rw [gl _ _ (by omega),gl _ _ (by omega),gl _ _ (by omega),hB2.ord,hlen];congr 2;rw [List.map_set];apply nh;intro q;rw [ou];split
          . rename_i hq;subst hq;rw [ec,zAc hjl,List.getElem?_map,hj];rfl
          . rfl
        . rw [ou] at hj';split at hj'
          . rename_i hq;subst hq;first|rw [zAc hjl] at hj' | skip
            simp only [dp] at hj';subst hj';rw [gl _ _ (by omega),g0];simp
          . rename_i hq;have hj2:j'<a.length:=(d9.1 hj').1;have hb2:=hB2.at_ j' hj2;rw [gl _ _ (by omega),gl _ _ (fun hh=>hq (hB2.inj _ _ hj2 hjl hh).symm),gl _ _ (by omega)];exact hB2.val j' p hj'
        . rw [hlen];exact hh
  . clear hh h hb0;rintro e h S ⟨rfl,b,hB,hh⟩;generalize ha:coll t 0 []=a at hB hh H;have hnd:(a.map (·.1)).Nodup:=by rw [<- ha];exact zzc _ _ _ List.nodup_nil
    have hal:a.length<1000000:=by
      have:=z05 t 0 [];rw [ha] at this;simp at this;omega
    simp only [onT];refine oi 4 (L:=(a.map (·.1)).map zd8) hh.2.2 hB.ord (by decide) (by omega) ?_ ?_ (by simp) (dz _) ?_
    . rw [fp];exact ztw (fun _=>rfl) (by simp)
    . intro t ht;simp only [jq] at ht;obtain ⟨i,_,rfl⟩:=ht;rfl
    refine yf0 (a:=a) (b:=b) (x:=.gone) a.length 0 _ (by omega) ?_ ?_ hB.inj (fun j hj=>(hB.at_ j hj).1) ?_ ?_
    . rw [gl _ _ (by omega),hB.map];rfl
    . intro j p _ hj;have:=hB.at_ j (d9.1 hj).1;rw [gl _ _ (by omega)];exact hB.val j p hj
    . rw [g0]
    intro S' en em eo;have en2:2<=S'.n:=by rw [en];exact hB.two
    have hh2:(tupd h 4 (.lst 2 ((a.map (·.1)).map zd8))) 0=zcp t/\(tupd h 4 (.lst 2 ((a.map (·.1)).map zd8))) 3=.mp 0/\(tupd h 4 (.lst 2 ((a.map (·.1)).map zd8))) 4=.lst 2 ((a.map (·.1)).map zd8):=⟨hh.1,hh.2.1,rfl⟩;generalize tupd h 4 (.lst 2 ((a.map (·.1)).map zd8))=h' at hh2;clear hh h hB en;repeat apply dn
    refine rkS [0,3,4,9] [] [] hh2 trivial ?_;clear hh2 h';intro h hh;repeat apply dn
    refine TW.vec 9 3 hh.2.2.2 ?_;have hh2:(tupd h 9 (.arr S'.n 3 0 0 0 0)) 0=zcp t/\(tupd h 9 (.arr S'.n 3 0 0 0 0)) 3=.mp 0/\(tupd h 9 (.arr S'.n 3 0 0 0 0)) 4=.lst 2 ((a.map (·.1)).map zd8)/\(tupd h 9 (.arr S'.n 3 0 0 0 0)) 9=.arr S'.n 3 0 0 0 (0*3):=⟨hh.1,hh.2.1,hh.2.2.1,rfl⟩;generalize tupd h 9 (.arr S'.n 3 0 0 0 0)=h' at hh2;clear hh h;generalize hbo:S'.n=bo at hh2 en2;generalize hS:S'.add (.cells false 0 [])=S;have eb:S.box bo=.cells false (([]:List zgk).length*3) (vecC zga []):=by rw [<- hS,<- hbo,l8];rfl
    have em2:S.box 0=.map (entZ a):=by rw [<- hS,ld _ _ (by omega)];exact em
    have en3:bo<S.n:=by rw [<- hS];show bo<S'.n+1;omega
    clear hS em eo hbo;refine rkS [0,3,9,44,45,46] [] [] (f2 hh2 (ti99 ax)) trivial ?_;clear hh2 h';intro h hh;refine TW.mono (Q:=fun e h' S'=>e=.normal/\S'.box bo=.cells false (v.length*3) (vecC zga v)/\h' 9=.arr bo 3 0 v.length v.length (v.length*3)) ?_ ?_;rotate_left
    . rintro e h2 S2 ⟨rfl,eb2,hh2⟩;simp only [onT];repeat apply dn
      refine oi 9 (L:=v.map zga) hh2 eb2 (by decide) (by omega) ?_ ?_ (by simp) (dz _) ?_
      . rw [fp];exact ztw (fun _=>rfl) rfl
      . intro t ht;simp only [jq] at ht;obtain ⟨i,_,rfl⟩:=ht;rfl
      have hh3:(tupd h2 9 (.lst 3 (v.map zga))) 9=zmg v:=rfl;generalize tupd h2 9 (.lst 3 (v.map zga))=h3 at hh3;refine rkS [2] [] [] hh3 trivial ?_;intro h4 hh4;exact rt hh4
    apply fc;refine TW.loop (fun m h S=>∃ (i:Nat) (w rest:List zgk),m+i=a.length/\yeg k t (a.drop i)=some rest/\w++rest=v/\w.length<=i/\S.box 0=.map (entZ a)/\S.box bo=.cells false (w.length*3) (vecC zga w)/\bo<S.n/\h 0=zcp t/\h 3=.mp 0/\h 9=.arr bo 3 0 w.length w.length (w.length*3)/\h 44=.lst 2 ((a.map (·.1)).map zd8)/\h 45=.int .i64 (a.length:Int)/\h 46=.int .i64 (i:Int)) ?_ a.length _ _ ?_;rotate_left
    . exact ⟨0,[],v,by omega,H,rfl,dz _,em2,eb,en3,hh⟩
    clear hh h eb em2 en3 H S;rintro m h S ⟨i,w,rest,hmi,H,hv,hwi,em,eb,en,hh⟩;repeat apply dn
    refine rkS [0,3,9,44,45,46,47] [] [] hh trivial fun h hh=>?_;by_cases c:(i:Int)<a.length
    rotate_left
    . repeat apply dn
      refine cf (f2 hh (zAb c)) ?_;refine TW.exit ?_;rw [il (by omega)] at H;cases H;rw [fj] at hv;subst hv;exact ⟨rfl,eb,hh.2.2.1⟩
    have hi:i<a.length:=by omega
    repeat apply dn
    refine ct (f2 hh (zAa c)) ?_;repeat apply dn
    refine sk ?_;repeat apply dn
    obtain ⟨⟨s,l⟩,hp⟩:∃ p,a[i]=p:=⟨_,rfl⟩;have hak:a[i]?=some (s,l):=by rw [dv hi,hp]
    rw [jr hi,hp,yeg] at H;obtain ⟨mx,hmx,H⟩:=zad H;obtain ⟨q,hq,H⟩:=zad H;cases H;refine TW.mono (Q:=fun e h' S'=>e=.normal/\∃ w':List zgk,w'++q=v/\w'.length<=i+1/\S'.box 0=.map (entZ a)/\S'.box bo=.cells false (w'.length*3) (vecC zga w')/\bo<S'.n/\h' 0=zcp t/\h' 3=.mp 0/\h' 9=.arr bo 3 0 w'.length w'.length (w'.length*3)/\h' 44=.lst 2 ((a.map (·.1)).map zd8)/\h' 45=.int .i64 (a.length:Int)/\h' 46=.int .i64 (i:Int)) ?_ ?_;rotate_left
    . rintro e h2 S2 ⟨rfl,w',hv',hw',em',eb',en',hh2⟩;refine rkS [0,3,9,44,45,46] [] [] hh2 trivial ?_;clear hh2 h2;intro h2 hh2;refine ⟨m - 1,by omega,i+1,w',q,by omega,hq,hv',hw',em',eb',en',?_⟩;have:dw.wrap ((i:Int)+1)=((i+1:Nat):Int):=by rw [wr64 (by omega)];omega
      rw [this] at hh2;exact hh2
    apply fc;repeat apply dn
    refine rkS [0,3,9,11,44,45,46] [] [] (f3 hh hak (f2 (ti99 ax) (z46 ax))) trivial fun h hh=>?_;generalize hS1:TS.set _ _ _=S1;have en1:S1.n=S.n+1:=by rw [<- hS1];rfl
    have ep1:S1.box S.n=.cells true 2 [.int .i64 s.port,.int .i64 s.tag]:=by rw [<- hS1,g0]
    have ex1:∀ c,c<S.n->S1.box c=S.box c:=fun c hc=>by rw [<- hS1,gl _ _ (by omega),ld _ _ (by omega)]
    clear hS1;refine TW.freezeP 11 hh.2.2.2.1 ep1 ?_;generalize hS2:S1.set S.n .gone=S2;have em2:S2.box 0=.map (entZ a):=by rw [<- hS2,gl _ _ (by omega),ex1 _ (by omega)];exact em
    have eb2:S2.box bo=.cells false (w.length*3) (vecC zga w):=by rw [<- hS2,gl _ _ (by omega),ex1 _ (by omega)];exact eb
    have eo2:bo<S2.n:=by rw [<- hS2];show bo<S1.n;omega
    clear hS2 ex1 ep1;have hh2:(tupd h 11 (.cp [.int .i64 s.port,.int .i64 s.tag])) 0=zcp t/\(tupd h 11 (.cp [.int .i64 s.port,.int .i64 s.tag])) 3=.mp 0/\(tupd h 11 (.cp [.int .i64 s.port,.int .i64 s.tag])) 9=.arr bo 3 0 w.length w.length (w.length*3)/\(tupd h 11 (.cp [.int .i64 s.port,.int .i64 s.tag])) 11=.cp [.int .i64 s.port,.int .i64 s.tag]/\(tupd h 11 (.cp [.int .i64 s.port,.int .i64 s.tag])) 44=.lst 2 ((a.map (·.1)).map zd8)/\(tupd h 11 (.cp [.int .i64 s.port,.int .i64 s.tag])) 45=.int .i64 (a.length:Int)/\(tupd h 11 (.cp [.int .i64 s.port,.int .i64 s.tag])) 46=.int .i64 (i:Int):=⟨hh.1,hh.2.1,hh.2.2.1,rfl,hh.2.2.2.2⟩;generalize tupd h 11 (.cp [.int .i64 s.port,.int .i64 s.tag])=h' at hh2;clear hh h;repeat apply dn
    refine rkS [0,3,9,11,12,44,45,46] [] [(.bool mx,S2)] hh2 ?_ ?_
    . exact ⟨ey ((zi0 ax hx k t (fun x=>zfd k x s) mx hmx 54 [.cp [.int .i64 s.port,.int .i64 s.tag]] rfl (fun y w hw=>zre ax hx k y s w hw)).call _),trivial⟩
    clear hh2 h';intro h hh;repeat apply dn
    refine rkS [0,3,9,11,44,45,46,54] [] [] hh trivial fun h hh=>?_
    cases mx with
    |true =>
      refine cf hh ?_;refine sk ?_;exact ⟨by first|rfl|trivial,w,hv,by omega,em2,eb2,eo2,hh.1,hh.2.1,hh.2.2.1,hh.2.2.2.2.1,hh.2.2.2.2.2.1,hh.2.2.2.2.2.2.1⟩
    |false =>
      refine ct hh ?_
      have hlook:zh5 Tryz.prog (EE ax) S2 98 (.mp 0) (.agg [.int .i64 s.port,.int .i64 s.tag]) false=some (ints l):=by
        rw [zu5 ax em2,zxc,z9c hnd hak];rfl
      refine rdS 10 [0,3,9,44,45,46] [] [] [] (f3 hh em2 (f3 eb2 (f3 (zu6 ax S2) hlook (ti78 ax)) (f3 (f3 (el45 ax) (sr45 ax) (bt78 ax)) (f2 (yn5 ax) (yn4 ax)) (f3 (yd7 ax) (yd6 ax) (ypo ax))))) trivial trivial ?_;intro h2 hh2;have hl1:(w++[(⟨s.port,s.tag,l⟩:zgk)]).length=w.length+1:=by simp
      refine ⟨trivial,w++[⟨s.port,s.tag,l⟩],?_,?_,?_,?_,?_,?_⟩
      . rw [fe];exact hv
      . rw [hl1];omega
      . rw [gl _ _ (by omega)];exact em2
      . rw [g0,hl1,zc5,show (w.length+1)*3=w.length*3+3 by omega];rfl
      . exact eo2
      . rw [hl1,show (w.length+1)*3=w.length*3+3 by omega];exact hh2
def ze0 (k:Nat) (i:Int):Nat->Int->Int->Option Int
 |0,_,_=>none
 |m+1,v_,k_=>(if 0<=i/\0<16 then (if k_<(i % 16) then (if 0<=v_/\0<2 then ze0 k i m (dw.wrap (v_ / 2)) (dw.wrap (k_+1)) else none) else some v_) else none)
def zje (k:Nat) (i:Int):Option Int:=((ze0 k i k 32768 0:Option Int).bind fun s_=>some s_)
theorem zpt (ax:Axs) (hx:NoAx ax) (k:Nat) (i:Int) (v:Int) (H:zje k i=some v):Pure Tryz.prog (EE ax) [] 132 [.int .i64 i] (.int .i64 v):=by
 rw [zje] at H;refine en [.tmp 2] 14 [0] (hx.no _ (by decide)) (fn132 ax) ?_;intro h hh;repeat apply dn
 refine rk [0] [] hh fun h hh=>?_;repeat apply dn
 refine rk [0,3] [] hh fun h hh=>?_;repeat apply dn
 refine rk [0,3,4] [] hh fun h hh=>?_;obtain ⟨s_,H1,H⟩:=zad H;repeat apply dn
 refine cu [3] 0 (fun h bs=>(h 3=.int .i64 s_)/\bs=[]) ?_ ?_
 .skip;repeat apply dn
  apply fc;repeat apply dn
  refine gy [0,3,4] (fun m h bs=>∃ (v_:Int) (k_:Int),ze0 k i m v_ k_=some s_/\(h 0=.int .i64 i/\h 3=.int .i64 v_/\h 4=.int .i64 k_)/\bs=[]) ?_ k _ _ ?_;rotate_left
  .exact ⟨32768,0,H1,kq hh,rfl⟩
  clear hh h H1;rintro m h bs ⟨v_,k_,H1,hh,rfl⟩;rcases m with _|m
  .rw [ze0] at H1;cases H1
  rw [ze0] at H1;obtain ⟨g1,H1⟩:=isg H1;repeat apply dn
  refine rk [0,3,4,8] [] hh fun h hh=>?_;rcases isp H1 with ⟨c2,H1⟩|⟨c2,H1⟩;rotate_left
  .skip;repeat apply dn
   refine cf (f2 hh (zAb c2)) ?_;refine xk ?_;cases H1;exact ce hh ⟨kq hh,rfl⟩
  repeat apply dn
  refine ct (f2 hh (zAa c2)) ?_;repeat apply dn
  refine sk ?_;repeat apply dn
  apply fc;obtain ⟨g3,H1⟩:=isg H1;repeat apply dn
  refine rk [0,3,4] [] hh fun h hh=>?_;repeat apply dn
  refine rk [0,3,4] [] hh fun h hh=>?_;exact rd m hh ⟨(dw.wrap (v_ / 2)),(dw.wrap (k_+1)),H1,kq hh,rfl⟩
 clear hh h;rintro h bs ⟨hh,rfl⟩;repeat apply dn
 refine rk [2] [] hh fun h hh=>?_;cases H;exact rt hh
def zh7 (k:Nat) (h_:Ar 10) (i:Int):Option Int:=(if 0<=i/\0<16 then (if (0:Int)<=(dw.wrap (i / 16))/\(dw.wrap (i / 16))<(10:Int) then ((zje k i).bind fun ar=>(if (0:Int)<=(gx h_.l (dw.wrap (i / 16)))/\0<ar then (if (0:Int)<=(dw.wrap ((gx h_.l (dw.wrap (i / 16))) / ar))/\0<2 then some ((dw.wrap ((gx h_.l (dw.wrap (i / 16))) / ar)) % 2) else none) else none)) else none) else none)
theorem zg1 (ax:Axs) (hx:NoAx ax) (k:Nat) (h_:Ar 10) (i:Int) (v:Int) (H:zh7 k h_ i=some v):Pure Tryz.prog (EE ax) [] 119 [.agg (h_.l.map (dy .i64)),.int .i64 i] (.int .i64 v):=by
 rw [zh7] at H;refine en [.tmp 4] 13 [0,1] (hx.no _ (by decide)) (fn119 ax) ?_;intro h hh;repeat apply dn
 refine rk [1,2] [] hh fun h hh=>?_;obtain ⟨g1,H⟩:=isg H;obtain ⟨g2,H⟩:=isg H;obtain ⟨ar,e3,H⟩:=zad H;obtain ⟨g4,H⟩:=isg H;obtain ⟨g5,H⟩:=isg H;repeat apply dn
 refine dk 6 [4] [.int .i64 ar] [] [] (f2 hh (arIx h_ g2)) ?_ trivial ?_
 .exact ⟨(zpt ax hx k i ar e3 ).call _,trivial⟩
 clear hh h;intro h hh;cases H;exact rt hh
def zlo (k:Nat) (h_:Ar 10) (i:Int) (b:Int):Option (Ar 10):=(if 0<=i/\0<16 then (if (0:Int)<=(dw.wrap (i / 16))/\(dw.wrap (i / 16))<(10:Int) then ((zh7 k h_ i).bind fun ba=>((zje k i).bind fun ar=>some (h_.set (dw.wrap (i / 16)) (dw.wrap ((gx h_.l (dw.wrap (i / 16)))+(dw.wrap ((dw.wrap (b - ba))*ar))))))) else none) else none)
theorem zt8 (ax:Axs) (hx:NoAx ax) (k:Nat) (h_:Ar 10) (i:Int) (b:Int) (v:Ar 10) (H:zlo k h_ i b=some v):Pure Tryz.prog (EE ax) [] 120 [.agg (h_.l.map (dy .i64)),.int .i64 i,.int .i64 b] (.agg (v.l.map (dy .i64))):=by
 rw [zlo] at H;refine en [.cell 6 60] 24 [0,1,2] (hx.no _ (by decide)) (fn120 ax) ?_;intro h hh;repeat apply dn
 refine rk [1,2,3,6] [] hh fun h hh=>?_;obtain ⟨g1,H⟩:=isg H;obtain ⟨g2,H⟩:=isg H;obtain ⟨ba,e3,H⟩:=zad H;obtain ⟨ar,e4,H⟩:=zad H;repeat apply dn
 refine dk 13 [3,6] [.int .i64 ba,.int .i64 ar] [] [] (f3 hh (arIx h_ g2) (yos (k:=.i64) h_ (dw.wrap ((gx h_.l (dw.wrap (i / 16)))+(dw.wrap ((dw.wrap (b - ba))*ar)))) g2)) ?_ trivial ?_
 .exact ⟨(zg1 ax hx k h_ i ba e3 ).call _,(zpt ax hx k i ar e4 ).call _,trivial⟩
 clear hh h;intro h hh;repeat apply dn
 refine rk [6] [] hh fun h hh=>?_;cases H;exact rtc hh
def zgz (k:Nat) (c:zaw) (most:Int):Nat->Int->Int->Option (Bool ⊕ Int)
 |0,_,_=>none
 |m+1,count,i=>(if i<(c.tables.length:Int) then (if 0<=i/\i<(c.tables.length:Int) then ((zpr k (gx c.tables i) most).bind fun bn=>(if bn=true then zgz k c most m (dw.wrap (count+((gx c.tables i).length:Int))) (dw.wrap (i+1)) else some (.inl false))) else none) else some (.inr count))
def znq (k:Nat) (c:zaw) (most:Int):Option Bool:=((zgz k c most k 0 0:Option (Bool ⊕ Int)).bind fun o=>gr (fun r=>some r) (fun s_=>(if s_<=most then (if (c.steps.length:Int)<=40 then some (decide ((c.tables.length:Int)<=40)) else some false) else some false)) o)
theorem zt5 (ax:Axs) (hx:NoAx ax) (k:Nat) (c:zaw) (most:Int) (v:Bool) (H:znq k c most=some v):Pure Tryz.prog (EE ax) [] 7 [zd5 c,.int .i64 most] (.bool v):=by
 rw [znq] at H;refine en [.tmp 4] 47 [0,1] (hx.no _ (by decide)) (fn7 ax) ?_;intro h hh;repeat apply dn
 refine rk [1,2] [] hh fun h hh=>?_;repeat apply dn
 refine rk [1,2,5] [] hh fun h hh=>?_;repeat apply dn
 refine rk [1,2,5,6] [] hh fun h hh=>?_;obtain ⟨o,H1,H⟩:=zad H;repeat apply dn
 refine cu [1,2,5] 1 (fun h bs=>∃ s_:Int,o=.inr s_/\(h 1=.int .i64 most/\h 2=.ptr 0 0 3/\h 5=.int .i64 s_)/\bs=[.cells true 3 [.int .i64 c.version,zam c.tables,zau c.steps]]) ?_ ?_
 .skip;repeat apply dn
  apply fc;repeat apply dn
  refine gy [1,2,5,6] (fun m h bs=>∃ (count:Int) (i:Int),zgz k c most m count i=some o/\(h 1=.int .i64 most/\h 2=.ptr 0 0 3/\h 5=.int .i64 count/\h 6=.int .i64 i)/\bs=[.cells true 3 [.int .i64 c.version,zam c.tables,zau c.steps]]) ?_ k _ _ ?_;rotate_left
  .exact ⟨0,0,H1,kq hh,rfl⟩
  clear hh h H1;rintro m h bs ⟨count,i,H1,hh,rfl⟩;rcases m with _|m
  .rw [zgz] at H1;cases H1
  rw [zgz] at H1;repeat apply dn
  refine rk [1,2,5,6,12] [] hh fun h hh=>?_;rcases isp H1 with ⟨c1,H1⟩|⟨c1,H1⟩;rotate_left
  .skip;repeat apply dn
   refine cf (f2 hh (zAb c1)) ?_;refine xk ?_;cases H1;exact ce hh ⟨_,rfl,kq hh,rfl⟩
  repeat apply dn
  refine ct (f2 hh (zAa c1)) ?_;repeat apply dn
  refine sk ?_;repeat apply dn
  apply fc;obtain ⟨g2,H1⟩:=isg H1;obtain ⟨bn,e3,H1⟩:=zad H1;repeat apply dn
  refine rkp [1,2,5,6,7] [] [.bool bn] (f2 hh (zae g2)) ?_ ?_
  .exact ⟨ey ((z5g ax hx k (gx c.tables i) most bn e3 ).call _),trivial⟩
  clear hh h;intro h hh;repeat apply dn
  refine rk [1,2,5,6,23] [] hh fun h hh=>?_;rcases isb H1 with ⟨c4,H1⟩|⟨c4,H1⟩;rotate_left
  .skip;repeat apply dn
   refine ct (f2 hh c4) ?_;repeat apply dn
   refine rk [4] [] (f2 hh c4) fun h hh=>?_;cases H1;obtain rfl:=sinl H;exact rt hh
  repeat apply dn
  refine cf (f2 hh c4) ?_;repeat apply dn
  refine sk ?_;repeat apply dn
  refine rk [1,2,5,6] [] (f3 hh c4 (zae g2)) fun h hh=>?_;repeat apply dn
  refine rk [1,2,5,6] [] (f2 hh c4) fun h hh=>?_;exact rd m hh ⟨(dw.wrap (count+((gx c.tables i).length:Int))),(dw.wrap (i+1)),H1,kq hh,rfl⟩
 clear hh h;rintro h bs ⟨s_,rfl,hh,rfl⟩;replace H:=sinr H;rcases isp H with ⟨c5,H⟩|⟨c5,H⟩;rotate_left
 .skip;repeat apply dn
  refine rk [4] [] (f2 hh (zAb c5)) fun h hh=>?_;cases H;exact rt hh
 rcases isp H with ⟨c6,H⟩|⟨c6,H⟩;rotate_left
 .skip;repeat apply dn
  refine rk [4] [] (f3 hh (zAa c5) (zAb c6)) fun h hh=>?_;cases H;exact rt hh
 repeat apply dn
 refine rk [4] [] (f3 hh (zAa c5) (zAa c6)) fun h hh=>?_;cases H;exact rt hh
def zcy (k:Nat) (n:Net) (c:zaw) (sign:Int):Nat->Int->(List Int)->Nat->Option (List Int×Nat)
 |0,_,_,_=>none
 |m+1,i,l,n2=>(if i<(c.tables.length:Int) then (if 0<=i/\i<(c.tables.length:Int) then (if 0<=i/\i<(n.nodes.length:Int) then (if (n2+1)*9<=1000000000 then zcy k n c sign m (dw.wrap (i+1)) (l++[max 0 (dw.wrap (sign*(dw.wrap (((gx c.tables i).length:Int) - ((gx n.nodes i).rules)))))]) (n2+1) else none) else none) else none) else some (l,n2))
def zk7 (k:Nat) (n:Net) (c:zaw) (sign:Int):Option (List Int):=((zcy k n c sign k 0 [] 0:Option (List Int×Nat)).bind fun s_=>(if s_.1.length=s_.2 then some s_.1 else none))
theorem zr6 (ax:Axs) (hx:NoAx ax) (k:Nat) (n:Net) (c:zaw) (sign:Int) (v:List Int) (H:zk7 k n c sign=some v):Pure Tryz.prog (EE ax) [] 51 [eNet n,zd5 c,.int .i64 sign] (ints v):=by
 rw [zk7] at H;refine en [.tmp 6] 35 [0,1,2] (hx.no _ (by decide)) (fn51 ax) ?_;intro h hh;repeat apply dn
 refine rk [2,3,4] [] hh fun h hh=>?_;repeat apply dn
 refine rk [2,3,4,7] [] hh fun h hh=>?_;refine vk 7 1 [2,3,4,7] hh fun h hh=>?_;repeat apply dn
 refine rk [2,3,7,11,12,13] [] hh fun h hh=>?_;obtain ⟨s_,H1,H⟩:=zad H;repeat apply dn
 refine cu [7] 3 (fun h bs=>(h 7=.arr 2 1 0 s_.2 s_.2 s_.2)/\bs=[.cells true 3 [zbn n.nodes,zbo n.links,zbp n.edges],.cells true 3 [.int .i64 c.version,zam c.tables,zau c.steps],.cells false s_.2 (s_.1.map (dy .i64))]) ?_ ?_
 .skip;repeat apply dn
  apply fc;repeat apply dn
  refine gy [2,3,7,11,12,13] (fun m h bs=>∃ (i:Int) (l:List Int) (n2:Nat),zcy k n c sign m i l n2=some s_/\(h 2=.int .i64 sign/\h 3=.ptr 0 0 3/\h 7=.arr 2 1 0 n2 n2 n2/\h 11=zam c.tables/\h 12=.int .i64 (c.tables.length:Int)/\h 13=.int .i64 i)/\bs=[.cells true 3 [zbn n.nodes,zbo n.links,zbp n.edges],.cells true 3 [.int .i64 c.version,zam c.tables,zau c.steps],.cells false n2 (l.map (dy .i64))]) ?_ k _ _ ?_;rotate_left
  .exact ⟨0,[],0,H1,kq hh,rfl⟩
  clear hh h H1;rintro m h bs ⟨i,l,n2,H1,hh,rfl⟩;rcases m with _|m
  .rw [zcy] at H1;cases H1
  rw [zcy] at H1;repeat apply dn
  refine rk [2,3,7,11,12,13,14] [] hh fun h hh=>?_;rcases isp H1 with ⟨c1,H1⟩|⟨c1,H1⟩;rotate_left
  .skip;repeat apply dn
   refine cf (f2 hh (zAb c1)) ?_;refine xk ?_;cases H1;exact ce hh ⟨kq hh,rfl⟩
  repeat apply dn
  refine ct (f2 hh (zAa c1)) ?_;repeat apply dn
  refine sk ?_;repeat apply dn
  apply fc;obtain ⟨g2,H1⟩:=isg H1;repeat apply dn
  refine rk [2,3,7,8,9,11,12,13] [] (f2 hh (zae g2)) fun h hh=>?_;obtain ⟨g3,H1⟩:=isg H1;obtain ⟨g4,H1⟩:=isg H1;repeat apply dn
  refine rg [] [] [.cells true 3 [zbn n.nodes,zbo n.links,zbp n.edges],.cells true 3 [.int .i64 c.version,zam c.tables,zau c.steps],.cells false (n2+1) ((l++[max 0 (dw.wrap (sign*(dw.wrap (((gx c.tables i).length:Int) - ((gx n.nodes i).rules)))))]).map (dy .i64))] (fun h=>h 2=.int .i64 sign/\h 3=.ptr 0 0 3/\h 7=.arr 2 1 0 (n2+1) (n2+1) (n2+1)/\h 11=zam c.tables/\h 12=.int .i64 (c.tables.length:Int)/\h 13=.int .i64 i) (f2 hh (zae g3)) trivial fun h hh=>?_;repeat apply dn
  refine rk [2,3,7,11,12,13] [] hh fun h hh=>?_;exact rd m hh ⟨(dw.wrap (i+1)),(l++[max 0 (dw.wrap (sign*(dw.wrap (((gx c.tables i).length:Int) - ((gx n.nodes i).rules)))))]),(n2+1),H1,kq hh,rfl⟩
 clear hh h;rintro h bs ⟨hh,rfl⟩;repeat apply dn
 refine rk [6] [] hh fun h hh=>?_;obtain ⟨g5,H⟩:=isg H;refine oi 6 (b:=2) (e:=1) (off:=0) (len:=s_.2) (cap:=s_.2) (M:=s_.2) (s_.1.map (dy .i64)) (kq hh) (by rfl) (by omega) (by omega) (by rw [fp,nf,zfz (fun _=>rfl),fk (by rw [ec];omega)]) (fun t ht=>by obtain ⟨x,_,rfl⟩:=jq.1 ht;first|rfl|exact zpf _|exact zl6 _|exact zl7 _|exact zj1 _ | (rw [ec];rfl)) (by rw [ec]<;>exact g5) (by omega) ?_;rw [zol _ _ _ (by simp only [lzA]<;>omega)];simp only [scA];refine gk [6] hh fun h hh=>?_;cases H;exact rt hh
def zhy (k:Nat) (n:Net) (c:zaw):Option (List Int):=((zk7 k n c 1).bind fun bp=>some bp)
theorem zwp (ax:Axs) (hx:NoAx ax) (k:Nat) (n:Net) (c:zaw) (v:List Int) (H:zhy k n c=some v):Pure Tryz.prog (EE ax) [] 14 [eNet n,zd5 c] (ints v):=by
 rw [zhy] at H;refine en [.tmp 4] 8 [0,1] (hx.no _ (by decide)) (fn14 ax) ?_;intro h hh;repeat apply dn
 refine rk [2,3] [] hh fun h hh=>?_;obtain ⟨bp,e1,H⟩:=zad H;repeat apply dn
 refine rkp [4] [] [ints bp] hh ?_ ?_
 .exact ⟨ey ((zr6 ax hx k n c 1 bp e1 ).call _),trivial⟩
 clear hh h;intro h hh;cases H;exact rt hh
def zjg (k:Nat) (n:Net) (c:zaw):Option (List Int):=((zk7 k n c (-1)).bind fun bp=>some bp)
theorem zz4 (ax:Axs) (hx:NoAx ax) (k:Nat) (n:Net) (c:zaw) (v:List Int) (H:zjg k n c=some v):Pure Tryz.prog (EE ax) [] 15 [eNet n,zd5 c] (ints v):=by
 rw [zjg] at H;refine en [.tmp 4] 8 [0,1] (hx.no _ (by decide)) (fn15 ax) ?_;intro h hh;repeat apply dn
 refine rk [2,3] [] hh fun h hh=>?_;obtain ⟨bp,e1,H⟩:=zad H;repeat apply dn
 refine rkp [4] [] [ints bp] hh ?_ ?_
 .exact ⟨ey ((zr6 ax hx k n c (-1) bp e1 ).call _),trivial⟩
 clear hh h;intro h hh;cases H;exact rt hh
def zdg (k:Nat) (n:Net) (c:zaw):Nat->Int->(List Int)->Nat->Option (List Int×Nat)
 |0,_,_,_=>none
 |m+1,i,l,n2=>(if i<(n.nodes.length:Int) then (if 0<=i/\i<(c.tables.length:Int) then (if 0<=i/\i<(n.nodes.length:Int) then (if (n2+1)*9<=1000000000 then zdg k n c m (dw.wrap (i+1)) (l++[max 0 (dw.wrap (((gx c.tables i).length:Int) - ((gx n.nodes i).rules)))]) (n2+1) else none) else none) else none) else some (l,n2))
def zhv (k:Nat) (n:Net) (c:zaw):Option (List Int):=((zdg k n c k 0 [] 0:Option (List Int×Nat)).bind fun s_=>(if s_.1.length=s_.2 then some s_.1 else none))
theorem zom (ax:Axs) (hx:NoAx ax) (k:Nat) (n:Net) (c:zaw) (v:List Int) (H:zhv k n c=some v):Pure Tryz.prog (EE ax) [] 17 [eNet n,zd5 c] (ints v):=by
 rw [zhv] at H;refine en [.tmp 4] 32 [0,1] (hx.no _ (by decide)) (fn17 ax) ?_;intro h hh;repeat apply dn
 refine rk [2,3] [] hh fun h hh=>?_;repeat apply dn
 refine rk [2,3,5] [] hh fun h hh=>?_;refine vk 5 1 [2,3,5] hh fun h hh=>?_;repeat apply dn
 refine rk [2,3,5,6] [] hh fun h hh=>?_;obtain ⟨s_,H1,H⟩:=zad H;repeat apply dn
 refine cu [5] 3 (fun h bs=>(h 5=.arr 2 1 0 s_.2 s_.2 s_.2)/\bs=[.cells true 3 [zbn n.nodes,zbo n.links,zbp n.edges],.cells true 3 [.int .i64 c.version,zam c.tables,zau c.steps],.cells false s_.2 (s_.1.map (dy .i64))]) ?_ ?_
 .skip;repeat apply dn
  apply fc;repeat apply dn
  refine gy [2,3,5,6] (fun m h bs=>∃ (i:Int) (l:List Int) (n2:Nat),zdg k n c m i l n2=some s_/\(h 2=.ptr 0 0 3/\h 3=.ptr 1 0 3/\h 5=.arr 2 1 0 n2 n2 n2/\h 6=.int .i64 i)/\bs=[.cells true 3 [zbn n.nodes,zbo n.links,zbp n.edges],.cells true 3 [.int .i64 c.version,zam c.tables,zau c.steps],.cells false n2 (l.map (dy .i64))]) ?_ k _ _ ?_;rotate_left
  .exact ⟨0,[],0,H1,kq hh,rfl⟩
  clear hh h H1;rintro m h bs ⟨i,l,n2,H1,hh,rfl⟩;rcases m with _|m
  .rw [zdg] at H1;cases H1
  rw [zdg] at H1;repeat apply dn
  refine rk [2,3,5,6,11] [] hh fun h hh=>?_;rcases isp H1 with ⟨c1,H1⟩|⟨c1,H1⟩;rotate_left
  .skip;repeat apply dn
   refine cf (f2 hh (zAb c1)) ?_;refine xk ?_;cases H1;exact ce hh ⟨kq hh,rfl⟩
  repeat apply dn
  refine ct (f2 hh (zAa c1)) ?_;repeat apply dn
  refine sk ?_;repeat apply dn
  apply fc;obtain ⟨g2,H1⟩:=isg H1;obtain ⟨g3,H1⟩:=isg H1;obtain ⟨g4,H1⟩:=isg H1;repeat apply dn
  refine dg 13 [] [] [] [.cells true 3 [zbn n.nodes,zbo n.links,zbp n.edges],.cells true 3 [.int .i64 c.version,zam c.tables,zau c.steps],.cells false (n2+1) ((l++[max 0 (dw.wrap (((gx c.tables i).length:Int) - ((gx n.nodes i).rules)))]).map (dy .i64))] (fun h=>h 2=.ptr 0 0 3/\h 3=.ptr 1 0 3/\h 5=.arr 2 1 0 (n2+1) (n2+1) (n2+1)/\h 6=.int .i64 i) (f3 hh (zae g2) (zae g3)) trivial trivial fun h hh=>?_;repeat apply dn
  refine rk [2,3,5,6] [] hh fun h hh=>?_;exact rd m hh ⟨(dw.wrap (i+1)),(l++[max 0 (dw.wrap (((gx c.tables i).length:Int) - ((gx n.nodes i).rules)))]),(n2+1),H1,kq hh,rfl⟩
 clear hh h;rintro h bs ⟨hh,rfl⟩;repeat apply dn
 refine rk [4] [] hh fun h hh=>?_;obtain ⟨g5,H⟩:=isg H;refine oi 4 (b:=2) (e:=1) (off:=0) (len:=s_.2) (cap:=s_.2) (M:=s_.2) (s_.1.map (dy .i64)) (kq hh) (by rfl) (by omega) (by omega) (by rw [fp,nf,zfz (fun _=>rfl),fk (by rw [ec];omega)]) (fun t ht=>by obtain ⟨x,_,rfl⟩:=jq.1 ht;first|rfl|exact zpf _|exact zl6 _|exact zl7 _|exact zj1 _ | (rw [ec];rfl)) (by rw [ec]<;>exact g5) (by omega) ?_;rw [zol _ _ _ (by simp only [lzA]<;>omega)];simp only [scA];refine gk [4] hh fun h hh=>?_;cases H;exact rt hh
def zdt (k:Nat) (n:Net) (c:zaw):Nat->Int->(List Int)->Nat->Option (List Int×Nat)
 |0,_,_,_=>none
 |m+1,i,l,n2=>(if i<(n.nodes.length:Int) then (if 0<=i/\i<(n.nodes.length:Int) then (if 0<=i/\i<(c.tables.length:Int) then (if (n2+1)*9<=1000000000 then zdt k n c m (dw.wrap (i+1)) (l++[max 0 (dw.wrap (((gx n.nodes i).rules) - ((gx c.tables i).length:Int)))]) (n2+1) else none) else none) else none) else some (l,n2))
def zjb (k:Nat) (n:Net) (c:zaw):Option (List Int):=((zdt k n c k 0 [] 0:Option (List Int×Nat)).bind fun s_=>(if s_.1.length=s_.2 then some s_.1 else none))
theorem zzx (ax:Axs) (hx:NoAx ax) (k:Nat) (n:Net) (c:zaw) (v:List Int) (H:zjb k n c=some v):Pure Tryz.prog (EE ax) [] 18 [eNet n,zd5 c] (ints v):=by
 rw [zjb] at H;refine en [.tmp 4] 32 [0,1] (hx.no _ (by decide)) (fn18 ax) ?_;intro h hh;repeat apply dn
 refine rk [2,3] [] hh fun h hh=>?_;repeat apply dn
 refine rk [2,3,5] [] hh fun h hh=>?_;refine vk 5 1 [2,3,5] hh fun h hh=>?_;repeat apply dn
 refine rk [2,3,5,6] [] hh fun h hh=>?_;obtain ⟨s_,H1,H⟩:=zad H;repeat apply dn
 refine cu [5] 3 (fun h bs=>(h 5=.arr 2 1 0 s_.2 s_.2 s_.2)/\bs=[.cells true 3 [zbn n.nodes,zbo n.links,zbp n.edges],.cells true 3 [.int .i64 c.version,zam c.tables,zau c.steps],.cells false s_.2 (s_.1.map (dy .i64))]) ?_ ?_
 .skip;repeat apply dn
  apply fc;repeat apply dn
  refine gy [2,3,5,6] (fun m h bs=>∃ (i:Int) (l:List Int) (n2:Nat),zdt k n c m i l n2=some s_/\(h 2=.ptr 0 0 3/\h 3=.ptr 1 0 3/\h 5=.arr 2 1 0 n2 n2 n2/\h 6=.int .i64 i)/\bs=[.cells true 3 [zbn n.nodes,zbo n.links,zbp n.edges],.cells true 3 [.int .i64 c.version,zam c.tables,zau c.steps],.cells false n2 (l.map (dy .i64))]) ?_ k _ _ ?_;rotate_left
  .exact ⟨0,[],0,H1,kq hh,rfl⟩
  clear hh h H1;rintro m h bs ⟨i,l,n2,H1,hh,rfl⟩;rcases m with _|m
  .rw [zdt] at H1;cases H1
  rw [zdt] at H1;repeat apply dn
  refine rk [2,3,5,6,11] [] hh fun h hh=>?_;rcases isp H1 with ⟨c1,H1⟩|⟨c1,H1⟩;rotate_left
  .skip;repeat apply dn
   refine cf (f2 hh (zAb c1)) ?_;refine xk ?_;cases H1;exact ce hh ⟨kq hh,rfl⟩
  repeat apply dn
  refine ct (f2 hh (zAa c1)) ?_;repeat apply dn
  refine sk ?_;repeat apply dn
  apply fc;obtain ⟨g2,H1⟩:=isg H1;obtain ⟨g3,H1⟩:=isg H1;obtain ⟨g4,H1⟩:=isg H1;repeat apply dn
  refine dg 13 [] [] [] [.cells true 3 [zbn n.nodes,zbo n.links,zbp n.edges],.cells true 3 [.int .i64 c.version,zam c.tables,zau c.steps],.cells false (n2+1) ((l++[max 0 (dw.wrap (((gx n.nodes i).rules) - ((gx c.tables i).length:Int)))]).map (dy .i64))] (fun h=>h 2=.ptr 0 0 3/\h 3=.ptr 1 0 3/\h 5=.arr 2 1 0 (n2+1) (n2+1) (n2+1)/\h 6=.int .i64 i) (f3 hh (zae g2) (zae g3)) trivial trivial fun h hh=>?_;repeat apply dn
  refine rk [2,3,5,6] [] hh fun h hh=>?_;exact rd m hh ⟨(dw.wrap (i+1)),(l++[max 0 (dw.wrap (((gx n.nodes i).rules) - ((gx c.tables i).length:Int)))]),(n2+1),H1,kq hh,rfl⟩
 clear hh h;rintro h bs ⟨hh,rfl⟩;repeat apply dn
 refine rk [4] [] hh fun h hh=>?_;obtain ⟨g5,H⟩:=isg H;refine oi 4 (b:=2) (e:=1) (off:=0) (len:=s_.2) (cap:=s_.2) (M:=s_.2) (s_.1.map (dy .i64)) (kq hh) (by rfl) (by omega) (by omega) (by rw [fp,nf,zfz (fun _=>rfl),fk (by rw [ec];omega)]) (fun t ht=>by obtain ⟨x,_,rfl⟩:=jq.1 ht;first|rfl|exact zpf _|exact zl6 _|exact zl7 _|exact zj1 _ | (rw [ec];rfl)) (by rw [ec]<;>exact g5) (by omega) ?_;rw [zol _ _ _ (by simp only [lzA]<;>omega)];simp only [scA];refine gk [4] hh fun h hh=>?_;cases H;exact rt hh
def zb9 (k:Nat) (a:List Int) (b:List Int):Nat->Int->Option (Bool ⊕ Unit)
 |0,_=>none
 |m+1,i=>(if i<(a.length:Int) then (if 0<=i/\i<(a.length:Int) then (if 0<=i/\i<(b.length:Int) then (if (gx a i)≠(gx b i) then some (.inl false) else zb9 k a b m (dw.wrap (i+1))) else none) else none) else some (.inr ()))
def zde (k:Nat) (a:List Int) (b:List Int):Option Bool:=(if (a.length:Int)≠(b.length:Int) then some false else ((zb9 k a b k 0:Option (Bool ⊕ Unit)).bind fun o=>gr (fun r=>some r) (fun s_=>some true) o))
theorem zgw (ax:Axs) (hx:NoAx ax) (k:Nat) (a:List Int) (b:List Int) (v:Bool) (H:zde k a b=some v):Pure Tryz.prog (EE ax) [] 16 [ints a,ints b] (.bool v):=by
 rw [zde] at H;refine en [.tmp 4] 26 [0,1] (hx.no _ (by decide)) (fn16 ax) ?_;intro h hh;repeat apply dn
 refine rk [0,1] [] hh fun h hh=>?_;repeat apply dn
 refine rk [0,1,10] [] hh fun h hh=>?_;rcases isp H with ⟨c1,H⟩|⟨c1,H⟩;rotate_left
 .skip;repeat apply dn
  refine cf (f2 hh (zAb c1)) ?_;repeat apply dn
  refine sk ?_;repeat apply dn
  refine rk [0,1,5] [] hh fun h hh=>?_;obtain ⟨o,H1,H⟩:=zad H;repeat apply dn
  refine cu [] 0 (fun h bs=>∃ s_:Unit,o=.inr s_/\(True)/\bs=[]) ?_ ?_
  .skip;repeat apply dn
   apply fc;repeat apply dn
   refine gy [0,1,5] (fun m h bs=>∃ (i:Int),zb9 k a b m i=some o/\(h 0=ints a/\h 1=ints b/\h 5=.int .i64 i)/\bs=[]) ?_ k _ _ ?_;rotate_left
   .exact ⟨0,H1,kq hh,rfl⟩
   clear hh h H1;rintro m h bs ⟨i,H1,hh,rfl⟩;rcases m with _|m
   .rw [zb9] at H1;cases H1
   rw [zb9] at H1;repeat apply dn
   refine rk [0,1,5,14] [] hh fun h hh=>?_;rcases isp H1 with ⟨c2,H1⟩|⟨c2,H1⟩;rotate_left
   .skip;repeat apply dn
    refine cf (f2 hh (zAb c2)) ?_;refine xk ?_;cases H1;exact ce hh ⟨_,rfl,kq hh,rfl⟩
   repeat apply dn
   refine ct (f2 hh (zAa c2)) ?_;repeat apply dn
   refine sk ?_;repeat apply dn
   apply fc;obtain ⟨g3,H1⟩:=isg H1;obtain ⟨g4,H1⟩:=isg H1;repeat apply dn
   refine dk 8 [0,1,5,25] [] [] [] (f3 hh (zae g3) (zae g4)) trivial trivial fun h hh=>?_;rcases isp H1 with ⟨c5,H1⟩|⟨c5,H1⟩;rotate_left
   .skip;repeat apply dn
    refine cf (f2 hh (zAb c5)) ?_;repeat apply dn
    refine sk ?_;repeat apply dn
    refine rk [0,1,5] [] hh fun h hh=>?_;exact rd m hh ⟨(dw.wrap (i+1)),H1,kq hh,rfl⟩
   repeat apply dn
   refine ct (f2 hh (zAa c5)) ?_;repeat apply dn
   refine rk [4] [] hh fun h hh=>?_;cases H1;obtain rfl:=sinl H;exact rt hh
  clear hh h;rintro h bs ⟨s_,rfl,hh,rfl⟩;replace H:=sinr H;repeat apply dn
  refine rk [4] [] hh fun h hh=>?_;cases H;exact rt hh
 repeat apply dn
 refine ct (f2 hh (zAa c1)) ?_;repeat apply dn
 refine rk [4] [] hh fun h hh=>?_;cases H;exact rt hh
def zbk (k:Nat) (a:List zgk) (b:List zgk):Nat->Int->Option (Bool ⊕ Unit)
 |0,_=>none
 |m+1,i=>(if i<(a.length:Int) then (if 0<=i/\i<(a.length:Int) then (if 0<=i/\i<(b.length:Int) then ((zde k ((gx a i).rules) ((gx b i).rules)).bind fun ap=>(if ap=true then (if ((gx a i).port)≠((gx b i).port) then some (.inl false) else (if ((gx a i).tag)≠((gx b i).tag) then some (.inl false) else zbk k a b m (dw.wrap (i+1)))) else some (.inl false))) else none) else none) else some (.inr ()))
def ze5 (k:Nat) (a:List zgk) (b:List zgk):Option Bool:=(if (a.length:Int)≠(b.length:Int) then some false else ((zbk k a b k 0:Option (Bool ⊕ Unit)).bind fun o=>gr (fun r=>some r) (fun s_=>some true) o))
theorem zo3 (ax:Axs) (hx:NoAx ax) (k:Nat) (a:List zgk) (b:List zgk) (v:Bool) (H:ze5 k a b=some v):Pure Tryz.prog (EE ax) [] 19 [zmg a,zmg b] (.bool v):=by
 rw [ze5] at H;refine en [.tmp 4] 57 [0,1] (hx.no _ (by decide)) (fn19 ax) ?_;intro h hh;repeat apply dn
 refine rk [0,1] [] hh fun h hh=>?_;repeat apply dn
 refine rk [0,1,11] [] hh fun h hh=>?_;rcases isp H with ⟨c1,H⟩|⟨c1,H⟩;rotate_left
 .skip;repeat apply dn
  refine cf (f2 hh (zAb c1)) ?_;repeat apply dn
  refine sk ?_;repeat apply dn
  refine rk [0,1,5] [] hh fun h hh=>?_;obtain ⟨o,H1,H⟩:=zad H;repeat apply dn
  refine cu [] 0 (fun h bs=>∃ s_:Unit,o=.inr s_/\(True)/\bs=[]) ?_ ?_
  .skip;repeat apply dn
   apply fc;repeat apply dn
   refine gy [0,1,5] (fun m h bs=>∃ (i:Int),zbk k a b m i=some o/\(h 0=zmg a/\h 1=zmg b/\h 5=.int .i64 i)/\bs=[]) ?_ k _ _ ?_;rotate_left
   .exact ⟨0,H1,kq hh,rfl⟩
   clear hh h H1;rintro m h bs ⟨i,H1,hh,rfl⟩;rcases m with _|m
   .rw [zbk] at H1;cases H1
   rw [zbk] at H1;repeat apply dn
   refine rk [0,1,5,15] [] hh fun h hh=>?_;rcases isp H1 with ⟨c2,H1⟩|⟨c2,H1⟩;rotate_left
   .skip;repeat apply dn
    refine cf (f2 hh (zAb c2)) ?_;refine xk ?_;cases H1;exact ce hh ⟨_,rfl,kq hh,rfl⟩
   repeat apply dn
   refine ct (f2 hh (zAa c2)) ?_;repeat apply dn
   refine sk ?_;repeat apply dn
   apply fc;obtain ⟨g3,H1⟩:=isg H1;obtain ⟨g4,H1⟩:=isg H1;obtain ⟨ap,e5,H1⟩:=zad H1;repeat apply dn
   refine dk 10 [0,1,5,6] [] [] [(.bool ap,stL [])] (f3 hh (zae g3) (zae g4)) trivial ?_ ?_
   .exact ⟨ey ((zgw ax hx k ((gx a i).rules) ((gx b i).rules) ap e5 ).call _),trivial⟩
   clear hh h;intro h hh;rcases isb H1 with ⟨c6,H1⟩|⟨c6,H1⟩;rotate_left
   .skip;repeat apply dn
    refine dk 26 [0,1,5,56] [] [] [] (f2 hh c6) trivial trivial fun h hh=>?_;repeat apply dn
    refine ct hh ?_;repeat apply dn
    refine rk [4] [] (f2 hh c6) fun h hh=>?_;cases H1;obtain rfl:=sinl H;exact rt hh
   rcases isp H1 with ⟨c7,H1⟩|⟨c7,H1⟩;rotate_left
   .skip;repeat apply dn
    refine dk 26 [0,1,5,56] [] [] [] (f3 hh c6 (f3 (zAb c7) (zae g3) (zae g4))) trivial trivial fun h hh=>?_;rcases isp H1 with ⟨c8,H1⟩|⟨c8,H1⟩;rotate_left
    .skip;repeat apply dn
     refine cf (f2 hh (zAb c8)) ?_;repeat apply dn
     refine sk ?_;repeat apply dn
     refine rk [0,1,5] [] (f2 hh c6) fun h hh=>?_;exact rd m hh ⟨(dw.wrap (i+1)),H1,kq hh,rfl⟩
    repeat apply dn
    refine ct (f2 hh (zAa c8)) ?_;repeat apply dn
    refine rk [4] [] (f2 hh c6) fun h hh=>?_;cases H1;obtain rfl:=sinl H;exact rt hh
   repeat apply dn
   refine dk 26 [0,1,5,56] [] [] [] (f3 hh c6 (f3 (zAa c7) (zae g3) (zae g4))) trivial trivial fun h hh=>?_;repeat apply dn
   refine ct hh ?_;repeat apply dn
   refine rk [4] [] (f2 hh c6) fun h hh=>?_;cases H1;obtain rfl:=sinl H;exact rt hh
  clear hh h;rintro h bs ⟨s_,rfl,hh,rfl⟩;replace H:=sinr H;repeat apply dn
  refine rk [4] [] hh fun h hh=>?_;cases H;exact rt hh
 repeat apply dn
 refine ct (f2 hh (zAa c1)) ?_;repeat apply dn
 refine rk [4] [] hh fun h hh=>?_;cases H;exact rt hh
def zja (k:Nat) (r:Rule):Option Bool:=(if (0:Int)<=0/\0<(10:Int) then (if (gx r.mat.mask.l 0)=65535 then (if (0:Int)<=9/\9<(10:Int) then some (decide ((gx r.mat.mask.l 9)=65535)) else none) else some false) else none)
theorem zpq (ax:Axs) (hx:NoAx ax) (k:Nat) (r:Rule) (v:Bool) (H:zja k r=some v):Pure Tryz.prog (EE ax) [] 56 [ze9 r] (.bool v):=by
 rw [zja] at H;refine en [.tmp 2] 15 [0] (hx.no _ (by decide)) (fn56 ax) ?_;intro h hh;repeat apply dn
 refine rk [1] [] hh fun h hh=>?_;obtain ⟨g1,H⟩:=isg H;rcases isp H with ⟨c2,H⟩|⟨c2,H⟩;rotate_left
 .skip;repeat apply dn
  refine rk [2] [] (f3 hh (zAb c2) (zmi (k:=.i64) (off:=1) (L:=(dy .i64 r.prio :: (r.mat.mask.l.map (dy .i64)++(r.mat.bits.l.map (dy .i64)++[dy .i64 r.step,pp 1 (r.outs.map lAlt)])))) (r:=(r.mat.bits.l.map (dy .i64)++[dy .i64 r.step,pp 1 (r.outs.map lAlt)])) r.mat.mask g1)) fun h hh=>?_;cases H;exact rt hh
 obtain ⟨g3,H⟩:=isg H;repeat apply dn
 refine rk [2] [] (f3 hh (zAa c2) (f2 (zmi (k:=.i64) (off:=1) (L:=(dy .i64 r.prio :: (r.mat.mask.l.map (dy .i64)++(r.mat.bits.l.map (dy .i64)++[dy .i64 r.step,pp 1 (r.outs.map lAlt)])))) (r:=(r.mat.bits.l.map (dy .i64)++[dy .i64 r.step,pp 1 (r.outs.map lAlt)])) r.mat.mask g1) (zmi (k:=.i64) (off:=1) (L:=(dy .i64 r.prio :: (r.mat.mask.l.map (dy .i64)++(r.mat.bits.l.map (dy .i64)++[dy .i64 r.step,pp 1 (r.outs.map lAlt)])))) (r:=(r.mat.bits.l.map (dy .i64)++[dy .i64 r.step,pp 1 (r.outs.map lAlt)])) r.mat.mask g3))) fun h hh=>?_;cases H;exact rt hh
def zt7 (k:Nat) (port:Int) (tag:Int):Option Pat:=(if (0:Int)<=0/\0<(10:Int) then (if (0:Int)<=9/\9<(10:Int) then some (⟨((zA 10).set 0 65535).set 9 65535,((zA 10).set 0 port).set 9 tag⟩:Pat) else none) else none)
theorem yaq (ax:Axs) (hx:NoAx ax) (k:Nat) (port:Int) (tag:Int) (v:Pat) (H:zt7 k port tag=some v):Pure Tryz.prog (EE ax) [] 70 [.int .i64 port,.int .i64 tag] (ePat v):=by
 rw [zt7] at H;refine en [.cell 4 101] 17 [0,1] (hx.no _ (by decide)) (fn70 ax) ?_;intro h hh;repeat apply dn
 refine rk [0,1,4] [] hh fun h hh=>?_;repeat apply dn
 refine rk [0,1,4,5] [] hh fun h hh=>?_;obtain ⟨g1,H⟩:=isg H;repeat apply dn
 refine rk [0,1,4,5] [] (f2 hh (yc9 (k:=.i64) (L:=((zA 10).l.map (dy .i64)++((zA 10).l.map (dy .i64)))) (r:=((zA 10).l.map (dy .i64))) (L2:=(((zA 10).set 0 65535).l.map (dy .i64)++((zA 10).l.map (dy .i64)))) (zA 10) 65535 g1)) fun h hh=>?_;obtain ⟨g2,H⟩:=isg H;repeat apply dn
 refine rk [0,1,4,5] [] (f2 hh (yc9 (k:=.i64) (L:=(((zA 10).set 0 65535).l.map (dy .i64)++((zA 10).l.map (dy .i64)))) (r:=((zA 10).l.map (dy .i64))) (L2:=((((zA 10).set 0 65535).set 9 65535).l.map (dy .i64)++((zA 10).l.map (dy .i64)))) ((zA 10).set 0 65535) 65535 g2)) fun h hh=>?_;repeat apply dn
 refine rk [1,4,5] [] (f2 hh (setAt (k:=.i64) (off:=10) (L:=((((zA 10).set 0 65535).set 9 65535).l.map (dy .i64)++((zA 10).l.map (dy .i64)))) (r:=[]) (L2:=((((zA 10).set 0 65535).set 9 65535).l.map (dy .i64)++(((zA 10).set 0 port).l.map (dy .i64)))) (p:=((((zA 10).set 0 65535).set 9 65535).l.map (dy .i64))) (zA 10) port g1)) fun h hh=>?_;repeat apply dn
 refine rk [4,5] [] (f2 hh (setAt (k:=.i64) (off:=10) (L:=((((zA 10).set 0 65535).set 9 65535).l.map (dy .i64)++(((zA 10).set 0 port).l.map (dy .i64)))) (r:=[]) (L2:=((((zA 10).set 0 65535).set 9 65535).l.map (dy .i64)++((((zA 10).set 0 port).set 9 tag).l.map (dy .i64)))) (p:=((((zA 10).set 0 65535).set 9 65535).l.map (dy .i64))) ((zA 10).set 0 port) tag g2)) fun h hh=>?_;repeat apply dn
 refine rk [4] [] hh fun h hh=>?_;cases H;exact rtc hh
def zfp (k:Nat) (q:Pat):Nat->Int->(Ar 10)->(Ar 10)->Option ((Pat×Bool) ⊕ (Ar 10×Ar 10))
 |0,_,_,_=>none
 |m+1,i,x,x2=>(if i<160 then ((zh7 k q.mask i).bind fun ba=>(if ba=0 then zfp k q m (dw.wrap (i+1)) x x2 else ((((zh7 k x i).bind fun bu=>(if bu=1 then ((zh7 k x2 i).bind fun db=>((zh7 k q.bits i).bind fun dc=>some (decide (db≠dc)))) else some false)):Option Bool).bind fun s_2=>(if s_2=true then some (.inl ((⟨zA 10,zA 10⟩:Pat),false)) else ((zlo k x i 1).bind fun bv=>((zh7 k q.bits i).bind fun b9=>((zlo k x2 i b9).bind fun ca=>zfp k q m (dw.wrap (i+1)) bv ca))))))) else some (.inr (x,x2)))
def zpv (k:Nat) (p:Pat) (q:Pat):Option (Pat×Bool):=((zfp k q k 0 p.mask p.bits:Option ((Pat×Bool) ⊕ (Ar 10×Ar 10))).bind fun o=>gr (fun r=>some r) (fun s_=>some ((⟨s_.1,s_.2⟩:Pat),true)) o)
theorem z5h (ax:Axs) (hx:NoAx ax) (k:Nat) (p:Pat) (q:Pat) (v:Pat×Bool) (H:zpv k p q=some v):Pure Tryz.prog (EE ax) [] 101 [ePat p,ePat q] (tupT [ePat v.1,.bool v.2]):=by
 rw [zpv] at H;refine enN [.cell 4 101,.tmp 5] 48 [0,1] (hx.no _ (by decide)) (fn101 ax) ?_;intro h hh;repeat apply dn
 refine rk [2,3,4] [] hh fun h hh=>?_;repeat apply dn
 refine rk [2,3,4,6] [] hh fun h hh=>?_;obtain ⟨o,H1,H⟩:=zad H;repeat apply dn
 refine cu [2,4] 3 (fun h bs=>∃ s_:Ar 10×Ar 10,o=.inr s_/\(h 2=.ptr 0 0 20/\h 4=.ptr 2 0 20)/\bs=[.cells true 20 (s_.1.l.map (dy .i64)++(s_.2.l.map (dy .i64))),.cells true 20 (q.mask.l.map (dy .i64)++(q.bits.l.map (dy .i64))),.cells true 20 ((zA 10).l.map (dy .i64)++((zA 10).l.map (dy .i64)))]) ?_ ?_
 .skip;repeat apply dn
  apply fc;repeat apply dn
  refine gy [2,3,4,6] (fun m h bs=>∃ (i:Int) (x:Ar 10) (x2:Ar 10),zfp k q m i x x2=some o/\(h 2=.ptr 0 0 20/\h 3=.ptr 1 0 20/\h 4=.ptr 2 0 20/\h 6=.int .i64 i)/\bs=[.cells true 20 (x.l.map (dy .i64)++(x2.l.map (dy .i64))),.cells true 20 (q.mask.l.map (dy .i64)++(q.bits.l.map (dy .i64))),.cells true 20 ((zA 10).l.map (dy .i64)++((zA 10).l.map (dy .i64)))]) ?_ k _ _ ?_;rotate_left
  .exact ⟨0,p.mask,p.bits,H1,kq hh,rfl⟩
  clear hh h H1;rintro m h bs ⟨i,x,x2,H1,hh,rfl⟩;rcases m with _|m
  .rw [zfp] at H1;cases H1
  rw [zfp] at H1;repeat apply dn
  refine rk [2,3,4,6,8] [] hh fun h hh=>?_;rcases isp H1 with ⟨c1,H1⟩|⟨c1,H1⟩;rotate_left
  .skip;repeat apply dn
   refine cf (f2 hh (zAb c1)) ?_;refine xk ?_;cases H1;exact ce hh ⟨_,rfl,kq hh,rfl⟩
  repeat apply dn
  refine ct (f2 hh (zAa c1)) ?_;repeat apply dn
  refine sk ?_;repeat apply dn
  apply fc;obtain ⟨ba,e2,H1⟩:=zad H1;repeat apply dn
  refine rkp [2,3,4,6,15] [] [.int .i64 ba] hh ?_ ?_
  .exact ⟨ey ((zg1 ax hx k q.mask i ba e2 ).call _),trivial⟩
  clear hh h;intro h hh;rcases isp H1 with ⟨c3,H1⟩|⟨c3,H1⟩;rotate_left
  .skip;repeat apply dn
   refine cf (f2 hh (zAb c3)) ?_;repeat apply dn
   refine sk ?_;obtain ⟨s_2,H2,H1⟩:=zad H1;repeat apply dn
   refine cu [2,3,4,6,31] 3 (fun h bs=>(h 2=.ptr 0 0 20/\h 3=.ptr 1 0 20/\h 4=.ptr 2 0 20/\h 6=.int .i64 i/\h 31=.bool s_2)/\bs=[.cells true 20 (x.l.map (dy .i64)++(x2.l.map (dy .i64))),.cells true 20 (q.mask.l.map (dy .i64)++(q.bits.l.map (dy .i64))),.cells true 20 ((zA 10).l.map (dy .i64)++((zA 10).l.map (dy .i64)))]) ?_ ?_
   .skip;obtain ⟨bu,e4,H2⟩:=zad H2;rcases isp H2 with ⟨c5,H2⟩|⟨c5,H2⟩;rotate_left
    .skip;repeat apply dn
     refine dk 12 [2,3,4,6,31] [.int .i64 bu] [] [] (f2 hh (zAb c5)) ?_ trivial ?_
     .exact ⟨(zg1 ax hx k x i bu e4 ).call _,trivial⟩
     clear hh h;intro h hh;cases H2;exact ce hh ⟨kq hh,rfl⟩
    obtain ⟨db,e6,H2⟩:=zad H2;obtain ⟨dc,e7,H2⟩:=zad H2;repeat apply dn
    refine dk 12 [2,3,4,6,31] [.int .i64 bu,.int .i64 db] [] [(.int .i64 dc,stL [.cells true 20 (x.l.map (dy .i64)++(x2.l.map (dy .i64))),.cells true 20 (q.mask.l.map (dy .i64)++(q.bits.l.map (dy .i64))),.cells true 20 ((zA 10).l.map (dy .i64)++((zA 10).l.map (dy .i64)))])] (f2 hh (zAa c5)) ?_ ?_ ?_
    .exact ⟨(zg1 ax hx k x i bu e4 ).call _,(zg1 ax hx k x2 i db e6 ).call _,trivial⟩
    .exact ⟨ey ((zg1 ax hx k q.bits i dc e7 ).call _),trivial⟩
    clear hh h;intro h hh;cases H2;exact ce hh ⟨kq hh,rfl⟩
   clear hh h;rintro h bs ⟨hh,rfl⟩;rcases isb H1 with ⟨c8,H1⟩|⟨c8,H1⟩;rotate_left
   .skip;repeat apply dn
    refine cf (f2 hh c8) ?_;repeat apply dn
    refine sk ?_;obtain ⟨bv,e9,H1⟩:=zad H1;repeat apply dn
    refine rkc [2,3,4,6] [] [(.agg (bv.l.map (dy .i64)),stL [.cells true 20 (x.l.map (dy .i64)++(x2.l.map (dy .i64))),.cells true 20 (q.mask.l.map (dy .i64)++(q.bits.l.map (dy .i64))),.cells true 20 ((zA 10).l.map (dy .i64)++((zA 10).l.map (dy .i64)))])] (f2 hh c8) ?_ ?_
    .exact ⟨ey (fh (zt8 ax hx k x i 1 bv e9 ) (by first|rfl|simp only [c8])),trivial⟩
    clear hh h;intro h hh;obtain ⟨b9,e10,H1⟩:=zad H1;obtain ⟨ca,e11,H1⟩:=zad H1;repeat apply dn
    refine dk 7 [2,3,4,6] [.int .i64 b9] [] [(.agg (ca.l.map (dy .i64)),stL [.cells true 20 (bv.l.map (dy .i64)++(x2.l.map (dy .i64))),.cells true 20 (q.mask.l.map (dy .i64)++(q.bits.l.map (dy .i64))),.cells true 20 ((zA 10).l.map (dy .i64)++((zA 10).l.map (dy .i64)))])] (f2 hh c8) ?_ ?_ ?_
    .exact ⟨fh (zg1 ax hx k q.bits i b9 e10 ) (by first|rfl|simp only [c8]),trivial⟩
    .exact ⟨ey (fh (zt8 ax hx k x2 i b9 ca e11 ) (by first|rfl|simp only [c8])),trivial⟩
    clear hh h;intro h hh;repeat apply dn
    refine rk [2,3,4,6] [] (f2 hh c8) fun h hh=>?_;exact rd m hh ⟨(dw.wrap (i+1)),bv,ca,H1,kq hh,rfl⟩
   repeat apply dn
   refine ct (f2 hh c8) ?_;repeat apply dn
   refine rk [4,5] [] (f2 hh c8) fun h hh=>?_;cases H1;obtain rfl:=sinl H;exact rtc hh
  repeat apply dn
  refine ct (f2 hh (zAa c3)) ?_;refine xk ?_;repeat apply dn
  refine rk [2,3,4,6] [] hh fun h hh=>?_;exact rd m hh ⟨(dw.wrap (i+1)),x,x2,H1,kq hh,rfl⟩
 clear hh h;rintro h bs ⟨s_,rfl,hh,rfl⟩;replace H:=sinr H;repeat apply dn
 refine rk [4,5] [] hh fun h hh=>?_;cases H;exact rtc hh
def zg5 (k:Nat) (p:Pat) (q:Pat):Option Bool:=((zpv k p q).bind fun cb=>some cb.2)
theorem zt9 (ax:Axs) (hx:NoAx ax) (k:Nat) (p:Pat) (q:Pat) (v:Bool) (H:zg5 k p q=some v):Pure Tryz.prog (EE ax) [] 76 [ePat p,ePat q] (.bool v):=by
 rw [zg5] at H;refine en [.tmp 4] 14 [0,1] (hx.no _ (by decide)) (fn76 ax) ?_;intro h hh;repeat apply dn
 refine rk [2,3] [] hh fun h hh=>?_;obtain ⟨cb,e1,H⟩:=zad H;repeat apply dn
 refine rkc [6] [] [(.tup [ePat cb.1,.bool cb.2],stL [.cells true 20 (p.mask.l.map (dy .i64)++(p.bits.l.map (dy .i64))),.cells true 20 (q.mask.l.map (dy .i64)++(q.bits.l.map (dy .i64)))])] hh ?_ ?_
 .exact ⟨ey ((z5h ax hx k p q cb e1 ).call _),trivial⟩
 clear hh h;intro h hh;repeat apply dn
 refine rk [4] [] hh fun h hh=>?_;cases H;exact rt hh
def zdf (k:Nat) (t:List Rule) (port:Int) (tag:Int):Nat->Int->(List Int)->Nat->Option ((List Int) ⊕ (List Int×Nat))
 |0,_,_,_=>none
 |m+1,i,l,n=>(if i<(t.length:Int) then (if 0<=i/\i<(t.length:Int) then ((zt7 k port tag).bind fun rAt=>((zg5 k ((gx t i).mat) rAt).bind fun bk=>(if bk=true then ((zja k (gx t i)).bind fun ak=>(if ak=true then (if (n+1)*9<=1000000000 then zdf k t port tag m (dw.wrap (i+1)) (l++[i]) (n+1) else none) else some (.inl []))) else zdf k t port tag m (dw.wrap (i+1)) l n))) else none) else some (.inr (l,n)))
def zjc (k:Nat) (t:List Rule) (port:Int) (tag:Int):Option (List Int):=((zdf k t port tag k 0 [] 0:Option ((List Int) ⊕ (List Int×Nat))).bind fun o=>gr (fun r=>some r) (fun s_=>(if s_.1.length=s_.2 then some s_.1 else none)) o)
theorem zzy (ax:Axs) (hx:NoAx ax) (k:Nat) (t:List Rule) (port:Int) (tag:Int) (v:List Int) (H:zjc k t port tag=some v):Pure Tryz.prog (EE ax) [] 28 [zcp t,.int .i64 port,.int .i64 tag] (ints v):=by
 rw [zjc] at H;refine en [.tmp 6] 40 [0,1,2] (hx.no _ (by decide)) (fn28 ax) ?_;intro h hh;repeat apply dn
 refine rk [0,1,2] [] hh fun h hh=>?_;repeat apply dn
 refine rk [0,1,2,7] [] hh fun h hh=>?_;refine vk 7 1 [0,1,2,7] hh fun h hh=>?_;repeat apply dn
 refine rk [0,1,2,7,8] [] hh fun h hh=>?_;obtain ⟨o,H1,H⟩:=zad H;repeat apply dn
 refine cu [7] 1 (fun h bs=>∃ s_:List Int×Nat,o=.inr s_/\(h 7=.arr 0 1 0 s_.2 s_.2 s_.2)/\bs=[.cells false s_.2 (s_.1.map (dy .i64))]) ?_ ?_
 .skip;repeat apply dn
  apply fc;repeat apply dn
  refine gy [0,1,2,7,8] (fun m h bs=>∃ (i:Int) (l:List Int) (n:Nat),zdf k t port tag m i l n=some o/\(h 0=zcp t/\h 1=.int .i64 port/\h 2=.int .i64 tag/\h 7=.arr 0 1 0 n n n/\h 8=.int .i64 i)/\bs=[.cells false n (l.map (dy .i64))]) ?_ k _ _ ?_;rotate_left
  .exact ⟨0,[],0,H1,kq hh,rfl⟩
  clear hh h H1;rintro m h bs ⟨i,l,n,H1,hh,rfl⟩;rcases m with _|m
  .rw [zdf] at H1;cases H1
  rw [zdf] at H1;repeat apply dn
  refine rk [0,1,2,7,8,14] [] hh fun h hh=>?_;rcases isp H1 with ⟨c1,H1⟩|⟨c1,H1⟩;rotate_left
  .skip;repeat apply dn
   refine cf (f2 hh (zAb c1)) ?_;refine xk ?_;cases H1;exact ce hh ⟨_,rfl,kq hh,rfl⟩
  repeat apply dn
  refine ct (f2 hh (zAa c1)) ?_;repeat apply dn
  refine sk ?_;repeat apply dn
  apply fc;obtain ⟨g2,H1⟩:=isg H1;obtain ⟨rAt,e3,H1⟩:=zad H1;obtain ⟨bk,e4,H1⟩:=zad H1;repeat apply dn
  refine dk 8 [0,1,2,7,8,9] [ePat rAt] [] [(.bool bk,stL [.cells false n (l.map (dy .i64))])] (f2 hh (zae g2)) ?_ ?_ ?_
  .exact ⟨(yaq ax hx k port tag rAt e3 ).call _,trivial⟩
  .exact ⟨ey ((zt9 ax hx k ((gx t i).mat) rAt bk e4 ).call _),trivial⟩
  clear hh h;intro h hh;repeat apply dn
  refine rk [0,1,2,7,8,27] [] hh fun h hh=>?_;rcases isb H1 with ⟨c5,H1⟩|⟨c5,H1⟩;rotate_left
  .skip;repeat apply dn
   refine ct (f2 hh c5) ?_;refine xk ?_;repeat apply dn
   refine rk [0,1,2,7,8] [] (f2 hh c5) fun h hh=>?_;exact rd m hh ⟨(dw.wrap (i+1)),l,n,H1,kq hh,rfl⟩
  repeat apply dn
  refine cf (f2 hh c5) ?_;repeat apply dn
  refine sk ?_;obtain ⟨ak,e6,H1⟩:=zad H1;repeat apply dn
  refine rkp [0,1,2,7,8,10] [] [.bool ak] (f3 hh c5 (zae g2)) ?_ ?_
  .exact ⟨ey (fh (zpq ax hx k (gx t i) ak e6 ) (by first|rfl|simp only [c5])),trivial⟩
  clear hh h;intro h hh;repeat apply dn
  refine rk [0,1,2,7,8,34] [] (f2 hh c5) fun h hh=>?_;rcases isb H1 with ⟨c7,H1⟩|⟨c7,H1⟩;rotate_left
  .skip;repeat apply dn
   refine ct (f2 hh c7) ?_;repeat apply dn
   refine rk [6] [] (f3 hh c5 c7) fun h hh=>?_;refine nk 6 1 [6] hh fun h hh=>?_;cases H1;obtain rfl:=sinl H;exact rt hh
  repeat apply dn
  refine cf (f2 hh c7) ?_;repeat apply dn
  refine sk ?_;obtain ⟨g8,H1⟩:=isg H1;repeat apply dn
  refine rg [] [] [.cells false (n+1) ((l++[i]).map (dy .i64))] (fun h=>h 0=zcp t/\h 1=.int .i64 port/\h 2=.int .i64 tag/\h 7=.arr 0 1 0 (n+1) (n+1) (n+1)/\h 8=.int .i64 i) (f3 hh c5 c7) trivial fun h hh=>?_;repeat apply dn
  refine rk [0,1,2,7,8] [] (f3 hh c5 c7) fun h hh=>?_;exact rd m hh ⟨(dw.wrap (i+1)),(l++[i]),(n+1),H1,kq hh,rfl⟩
 clear hh h;rintro h bs ⟨s_,rfl,hh,rfl⟩;replace H:=sinr H;repeat apply dn
 refine rk [6] [] hh fun h hh=>?_;obtain ⟨g9,H⟩:=isg H;refine oi 6 (b:=0) (e:=1) (off:=0) (len:=s_.2) (cap:=s_.2) (M:=s_.2) (s_.1.map (dy .i64)) (kq hh) (by rfl) (by omega) (by omega) (by rw [fp,nf,zfz (fun _=>rfl),fk (by rw [ec];omega)]) (fun t ht=>by obtain ⟨x,_,rfl⟩:=jq.1 ht;first|rfl|exact zpf _|exact zl6 _|exact zl7 _|exact zj1 _ | (rw [ec];rfl)) (by rw [ec]<;>exact g9) (by omega) ?_;rw [zol _ _ _ (by simp only [lzA]<;>omega)];simp only [scA];refine gk [6] hh fun h hh=>?_;cases H;exact rt hh
def zbl (k:Nat) (t:List Rule):Nat->Int->(List zgk)->Nat->Option (List zgk×Nat)
 |0,_,_,_=>none
 |m+1,i,l,n=>(if i<(t.length:Int) then (if 0<=i/\i<(t.length:Int) then ((zja k (gx t i)).bind fun ak=>(if ak=true then (if (0:Int)<=0/\0<(10:Int) then (if (0:Int)<=9/\9<(10:Int) then ((zjc k t (gx (((gx t i).mat).bits).l 0) (gx (((gx t i).mat).bits).l 9)).bind fun bc=>(if 0<(bc.length:Int) then (if (0:Int)<=0/\0<(bc.length:Int) then (if (gx bc 0)=i then (if (n+1)*41<=1000000000 then zbl k t m (dw.wrap (i+1)) (l++[(⟨gx (((gx t i).mat).bits).l 0,gx (((gx t i).mat).bits).l 9,bc⟩:zgk)]) (n+1) else none) else zbl k t m (dw.wrap (i+1)) l n) else none) else zbl k t m (dw.wrap (i+1)) l n)) else none) else none) else zbl k t m (dw.wrap (i+1)) l n)) else none) else some (l,n))
def zic (k:Nat) (t:List Rule):Option (List zgk):=((zbl k t k 0 [] 0:Option (List zgk×Nat)).bind fun s_=>(if s_.1.length=s_.2 then some s_.1 else none))
theorem zt6 (ax:Axs) (hx:NoAx ax) (k:Nat) (t:List Rule) (v:List zgk) (H:zic k t=some v):Pure Tryz.prog (EE ax) [] 21 [zcp t] (zmg v):=by
 rw [zic] at H;refine en [.tmp 2] 59 [0] (hx.no _ (by decide)) (fn21 ax) ?_;intro h hh;repeat apply dn
 refine rk [0] [] hh fun h hh=>?_;repeat apply dn
 refine rk [0,3] [] hh fun h hh=>?_;refine vk 3 3 [0,3] hh fun h hh=>?_;repeat apply dn
 refine rk [0,3,4] [] hh fun h hh=>?_;obtain ⟨s_,H1,H⟩:=zad H;repeat apply dn
 refine cu [3] 1 (fun h bs=>(h 3=.arr 0 3 0 s_.2 s_.2 (s_.2*3))/\bs=[.cells false (s_.2*3) (vecC zga s_.1)]) ?_ ?_
 .skip;repeat apply dn
  apply fc;repeat apply dn
  refine gy [0,3,4] (fun m h bs=>∃ (i:Int) (l:List zgk) (n:Nat),zbl k t m i l n=some s_/\(h 0=zcp t/\h 3=.arr 0 3 0 n n (n*3)/\h 4=.int .i64 i)/\bs=[.cells false (n*3) (vecC zga l)]) ?_ k _ _ ?_;rotate_left
  .exact ⟨0,[],0,H1,kq hh,rfl⟩
  clear hh h H1;rintro m h bs ⟨i,l,n,H1,hh,rfl⟩;rcases m with _|m
  .rw [zbl] at H1;cases H1
  rw [zbl] at H1;repeat apply dn
  refine rk [0,3,4,10] [] hh fun h hh=>?_;rcases isp H1 with ⟨c1,H1⟩|⟨c1,H1⟩;rotate_left
  .skip;repeat apply dn
   refine cf (f2 hh (zAb c1)) ?_;refine xk ?_;cases H1;exact ce hh ⟨kq hh,rfl⟩
  repeat apply dn
  refine ct (f2 hh (zAa c1)) ?_;repeat apply dn
  refine sk ?_;repeat apply dn
  apply fc;obtain ⟨g2,H1⟩:=isg H1;obtain ⟨ak,e3,H1⟩:=zad H1;repeat apply dn
  refine rkp [0,3,4,5] [] [.bool ak] (f2 hh (zae g2)) ?_ ?_
  .exact ⟨ey ((zpq ax hx k (gx t i) ak e3 ).call _),trivial⟩
  clear hh h;intro h hh;repeat apply dn
  refine rk [0,3,4,19] [] hh fun h hh=>?_;rcases isb H1 with ⟨c4,H1⟩|⟨c4,H1⟩;rotate_left
  .skip;repeat apply dn
   refine ct (f2 hh c4) ?_;refine xk ?_;repeat apply dn
   refine rk [0,3,4] [] (f2 hh c4) fun h hh=>?_;exact rd m hh ⟨(dw.wrap (i+1)),l,n,H1,kq hh,rfl⟩
  repeat apply dn
  refine cf (f2 hh c4) ?_;repeat apply dn
  refine sk ?_;obtain ⟨g5,H1⟩:=isg H1;obtain ⟨g6,H1⟩:=isg H1;repeat apply dn
  refine dk 14 [0,3,4,6] [] [] [] (f3 hh c4 (f3 (zae g2) (cpAt (k:=.i64) (L:=((((gx t i).mat).bits).l.map (dy .i64)++[dy .i64 ((gx t i).step),pp 1 (((gx t i).outs).map lAlt)])) (r:=[.int .i64 ((gx t i).step),pp 1 (((gx t i).outs).map lAlt)]) (((gx t i).mat).bits) g5) (cpAt (k:=.i64) (L:=((((gx t i).mat).bits).l.map (dy .i64)++[dy .i64 ((gx t i).step),pp 1 (((gx t i).outs).map lAlt)])) (r:=[.int .i64 ((gx t i).step),pp 1 (((gx t i).outs).map lAlt)]) (((gx t i).mat).bits) g6))) trivial trivial fun h hh=>?_;obtain ⟨bc,e7,H1⟩:=zad H1;repeat apply dn
  refine rkc [0,3,4,6] [] [(ints bc,stL [.cells false (n*3) (vecC zga l),.cells true 3 [.int .i64 (gx (((gx t i).mat).bits).l 0),.int .i64 (gx (((gx t i).mat).bits).l 9),.nils]])] (f2 hh c4) ?_ ?_
  .exact ⟨ey (fh (zzy ax hx k t (gx (((gx t i).mat).bits).l 0) (gx (((gx t i).mat).bits).l 9) bc e7 ) (by first|rfl|simp only [c4])),trivial⟩
  clear hh h;intro h hh;rcases isp H1 with ⟨c8,H1⟩|⟨c8,H1⟩;rotate_left
  .skip;repeat apply dn
   refine rk [0,3,4,6,53] [] (f3 hh (zAb c8) c4) fun h hh=>?_;repeat apply dn
   refine cf hh ?_;repeat apply dn
   refine sk ?_;repeat apply dn
   refine rk [0,3,4] [] (f2 hh c4) fun h hh=>?_;exact rd m hh ⟨(dw.wrap (i+1)),l,n,H1,kq hh,rfl⟩
  obtain ⟨g9,H1⟩:=isg H1;repeat apply dn
  refine rk [0,3,4,6,53] [] (f3 hh (zAa c8) (f2 c4 (zae g9))) fun h hh=>?_;rcases isp H1 with ⟨c10,H1⟩|⟨c10,H1⟩;rotate_left
  .skip;repeat apply dn
   refine cf (f2 hh (zAb c10)) ?_;repeat apply dn
   refine sk ?_;repeat apply dn
   refine rk [0,3,4] [] (f2 hh c4) fun h hh=>?_;exact rd m hh ⟨(dw.wrap (i+1)),l,n,H1,kq hh,rfl⟩
  repeat apply dn
  refine ct (f2 hh (zAa c10)) ?_;obtain ⟨g11,H1⟩:=isg H1;repeat apply dn
  refine rg [] [] [.cells false ((n+1)*3) (vecC zga (l++[(⟨gx (((gx t i).mat).bits).l 0,gx (((gx t i).mat).bits).l 9,bc⟩:zgk)])),.cells true 3 [.int .i64 (gx (((gx t i).mat).bits).l 0),.int .i64 (gx (((gx t i).mat).bits).l 9),ints bc]] (fun h=>h 0=zcp t/\h 3=.arr 0 3 0 (n+1) (n+1) ((n+1)*3)/\h 4=.int .i64 i) (f2 hh c4) trivial fun h hh=>?_;repeat apply dn
  refine rk [0,3,4] [] (f2 hh c4) fun h hh=>?_;exact rd m hh ⟨(dw.wrap (i+1)),(l++[(⟨gx (((gx t i).mat).bits).l 0,gx (((gx t i).mat).bits).l 9,bc⟩:zgk)]),(n+1),H1,kq hh,rfl⟩
 clear hh h;rintro h bs ⟨hh,rfl⟩;repeat apply dn
 refine rk [2] [] hh fun h hh=>?_;obtain ⟨g12,H⟩:=isg H;refine oi 2 (b:=0) (e:=3) (off:=0) (len:=s_.2) (cap:=s_.2) (M:=(s_.2*3)) (s_.1.map zga) (kq hh) (by rfl) (by omega) (by omega) (by rw [fp];exact ztw (fun _=>rfl) g12) (fun t ht=>by obtain ⟨x,_,rfl⟩:=jq.1 ht;first|rfl|exact zpf _|exact zl6 _|exact zl7 _|exact zj1 _ | (rw [ec];rfl)) (by rw [ec]<;>exact g12) (by omega) ?_;rw [zol _ _ _ (by simp only [lzA]<;>omega)];simp only [scA];refine gk [2] hh fun h hh=>?_;cases H;exact rt hh
structure z2x (c:zaw):Prop where
  tabs:c.tables.length<big
  tab:∀ t,t∈c.tables->ya5 t
  steps:c.steps.length<big
  keys:∀ s,s∈c.steps->s.key.length<big
def zxx (n:Net) (c:zaw):Bool:=decide (c.tables.length=n.nodes.length) && (decide (c.steps.length<=1000) && c.tables.all fun t=>decide ((zkc n (c.steps.length:Int) t).2=0))
theorem zoi {k:Nat} (l:List (List Rule)) (f:(List Rule)->Option Bool) (q:(List Rule)->Bool) (hf:∀ x,x∈l->f x=some (q x)) (hl:l.length<big) (hk:l.length<k):zb3 k l f=some (idxB q l):=by
  unfold zb3;exact zlg l q hl (fun m j h=>by rw [zay,zAc (zaf h),zAc ⟨by omega,zaf h⟩,zcg h,hf _ (fo h),dq]) (fun m=>by rw [zay,zAd (by omega)]) hk
theorem zma {k:Nat} (l:List (List Rule)) (f:(List Rule)->Option Bool) (q:(List Rule)->Bool) (hf:∀ x,x∈l->f x=some (q x)) (hl:l.length<big) (hk:l.length<k):zbq k l f=some (l.any q):=by
  unfold zbq;rw [zoi l f q hf hl hk,dq,zqg]
theorem yf6 {k:Nat} (n:Net) (c:zaw) (hc:z2x c) (hk:big<=k):zk9 k n c=some (zxx n c):=by
  unfold zk9 zxx;by_cases h1:c.tables.length=n.nodes.length
  . rw [zAc (by omega),zAa h1];by_cases h2:c.steps.length<=1000
    . rw [zAc (by omega),zAa h2]
      rw [zma c.tables _ (fun t=>decide ((zkc n (c.steps.length:Int) t).2≠0)) (fun t ht=>by
        unfold zid
        rw [z48 n _ t (hc.tab t ht) hk,dq]) hc.tabs (ei hc.tabs hk),dq]
      simp only [Bool.true_and];congr 1;rw [List.not_any_eq_all_not];congr 1;funext t;by_cases q:(zkc n (c.steps.length:Int) t).2=0
      . rw [zAa q,zAb (fun h=>h q)];rfl
      . rw [zAb q,zAa (show (zkc n (c.steps.length:Int) t).2≠0 from q)];rfl
    . rw [zAd (by omega),zAb h2];rfl
  . rw [zAd (by omega),zAb h1];rfl
theorem ydy {k:Nat} (n:Net) (c:zaw) (hc:z2x c) (hk:big<=k):zkz k n c=some (zxx n c):=by
  unfold zkz zxx;by_cases h1:c.tables.length=n.nodes.length
  . rw [zAd (by omega),zAa h1,dq];by_cases h2:c.steps.length<=1000
    . rw [zAd (by simp only [decide_eq_true_eq];omega),zAa h2]
      rw [zlz (L:=zdw k n c) c.tables false (fun t=>decide ((zkc n (c.steps.length:Int) t).2=0)) hc.tabs (fun m j h=>by
        rw [zdw,zAc (zaf h),zAc ⟨by omega,zaf h⟩,zcg h,yd2 n _ _ (hc.tab _ (fo h)) hk,dq];by_cases q:(zkc n (c.steps.length:Int) c.tables[j]).2=0
        . rw [zAd (fun h=>h q),zAc (zAa q)]
        . rw [zAc q,zAd (by simpa using q)]) (fun m=>by rw [zdw,zAd (by omega)]) (ei hc.tabs hk),dq]
      simp only [Bool.true_and];cases (c.tables.all fun t=>decide ((zkc n (c.steps.length:Int) t).2=0))<;>rfl
    . rw [zAc (by simp only [decide_eq_true_eq];omega),zAb h2];rfl
  . rw [zAc (by omega),zAb h1];rfl
theorem zoj {k:Nat} (a b:List (List Rule)) (f:List Rule->List Rule->Option Bool) (hf:∀ x,x∈a->∀ y,y∈b->f x y=some (decide (x=y))) (hl:a.length<big) (hk:a.length<k):zb4 k a b f=some (decide (a=b)):=by
  unfold zb4;by_cases hlen:a.length=b.length
  . rw [zAd (by omega),zcz (L:=zap k a b f) a.length false (fun j=>decide (a[j]?=b[j]?)) hl (fun m j h=>by
      have h2:j<b.length:=by omega
      rw [zap,zAc (zaf h),zAc ⟨by omega,zaf h⟩,zAc ⟨by omega,zaf h2⟩,zcg h,zcg h2];rw [hf _ (fo h) _ (fo h2),dq,dv h,dv h2]
      simp only [dp]) (fun m=>by rw [zap,zAd (by omega)]) hk,zli a b hlen,dq]
    cases decide (a=b)<;>rfl
  . rw [zAc (by omega)];congr 1;exact (zAb fun h=>hlen (by rw [h])).symm
theorem zpl {k:Nat} (a b:List zeo) (f:zeo->zeo->Option Bool) (hf:∀ x,x∈a->∀ y,y∈b->f x y=some (decide (x=y))) (hl:a.length<big) (hk:a.length<k):zcm k a b f=some (decide (a=b)):=by
  unfold zcm;by_cases hlen:a.length=b.length
  . rw [zAd (by omega),zcz (L:=zar k a b f) a.length false (fun j=>decide (a[j]?=b[j]?)) hl (fun m j h=>by
      have h2:j<b.length:=by omega
      rw [zar,zAc (zaf h),zAc ⟨by omega,zaf h⟩,zAc ⟨by omega,zaf h2⟩,zcg h,zcg h2];rw [hf _ (fo h) _ (fo h2),dq,dv h,dv h2]
      simp only [dp]) (fun m=>by rw [zar,zAd (by omega)]) hk,zli a b hlen,dq]
    cases decide (a=b)<;>rfl
  . rw [zAc (by omega)];congr 1;exact (zAb fun h=>hlen (by rw [h])).symm
theorem zr0 {k:Nat} (a b:List ByteArray) (hl:a.length<big) (hk:a.length<k):zc8 k a b=some (decide (a=b)):=by
  unfold zc8;by_cases hlen:a.length=b.length
  . rw [zAd (by omega),zcz (L:=zaz k a b) a.length false (fun j=>decide (a[j]?=b[j]?)) hl (fun m j h=>by
      have h2:j<b.length:=by omega
      rw [zaz,zAc (zaf h),zAc ⟨by omega,zaf h⟩,zAc ⟨by omega,zaf h2⟩,zcg h,zcg h2,dv h,dv h2]
      simp only [dp,decide_eq_true_eq]) (fun m=>by rw [zaz,zAd (by omega)]) hk,zli a b hlen,dq]
    cases decide (a=b)<;>rfl
  . rw [zAc (by omega)];congr 1;exact (zAb fun h=>hlen (by rw [h])).symm
theorem zzu (a b:zeo):a=b↔a.kind=b.kind/\a.var=b.var/\a.field=b.field/\a.n=b.n/\a.m=b.m/\a.key=b.key:=by
  constructor
  . rintro rfl;exact ⟨rfl,rfl,rfl,rfl,rfl,rfl⟩
  . obtain ⟨a1,a2,a3,a4,a5,a6⟩:=a;obtain ⟨b1,b2,b3,b4,b5,b6⟩:=b;rintro ⟨rfl,rfl,rfl,rfl,rfl,rfl⟩;rfl
theorem yf5 {k:Nat} (a b:zeo) (ha:a.key.length<big) (hk:big<=k):zhx k a b=some (decide (a=b)):=by
  unfold zhx;rw [zr0 _ _ ha (ei ha hk)];by_cases h:a=b
  . rw [zAa h];obtain ⟨h1,h2,h3,h4,h5,h6⟩:=(zzu a b).1 h;rw [zAc h1,zAc h2,zAc h3,zAc h4,zAc h5,dq,zAa h6]
  . rw [zAb h];repeat' split
    all_goals first|rfl|skip
    rename_i h1 h2 h3 h4 h5;rw [dq,zAb (fun h6=>h ((zzu a b).2 ⟨h1,h2,h3,h4,h5,h6⟩))]
theorem z2g {k:Nat} (a b:zeo) (ha:a.key.length<big) (hk:big<=k):zhe k a b=some (decide (a=b)):=by
  have hloop:a.key.length=b.key.length->(zbt k a b k 0:Option (Bool ⊕ Unit))=some (if decide (a.key=b.key)=true then .inr () else .inl false):=fun hlen=>by
    rw [zcz (L:=zbt k a b) a.key.length false (fun j=>decide (a.key[j]?=b.key[j]?)) ha (fun m j h=>by
      have h2:j<b.key.length:=by omega
      rw [zbt,zAc (zaf h),zAc ⟨by omega,zaf h⟩,zAc ⟨by omega,zaf h2⟩,zcg h,zcg h2,dv h,dv h2]
      simp only [dp,decide_eq_true_eq]) (fun m=>by rw [zbt,zAd (by omega)]) (ei ha hk),zli a.key b.key hlen]
  unfold zhe;by_cases h:a=b
  . rw [zAa h];obtain ⟨h1,h2,h3,h4,h5,h6⟩:=(zzu a b).1 h;rw [zAd (fun q=>q h1),zAc h2,zAc h3,zAd (fun q=>q h4),zAd (fun q=>q h5),dq,zAd (by simp [h6]),hloop (by rw [h6]),zAa h6];rfl
  . rw [zAb h];by_cases h1:a.kind=b.kind
    . rw [zAd (fun q=>q h1)];by_cases h2:a.var=b.var
      . rw [zAc h2];by_cases h3:a.field=b.field
        . rw [zAc h3];by_cases h4:a.n=b.n
          . rw [zAd (fun q=>q h4)];by_cases h5:a.m=b.m
            . rw [zAd (fun q=>q h5),dq];by_cases hlen:a.key.length=b.key.length
              . rw [zAd (by simp [hlen]),hloop hlen,zAb (fun h6=>h ((zzu a b).2 ⟨h1,h2,h3,h4,h5,h6⟩))];rfl
              . rw [zAc (by simp only [decide_eq_true_eq];omega)]
            . rw [zAc h5];rfl
          . rw [zAc h4];rfl
        . rw [zAd h3];rfl
      . rw [zAd h2];rfl
    . rw [zAc h1];rfl
theorem zv8 (c d:zaw):c=d↔c.version=d.version/\c.tables=d.tables/\c.steps=d.steps:=by
  constructor
  . rintro rfl;exact ⟨rfl,rfl,rfl⟩
  . obtain ⟨a1,a2,a3⟩:=c;obtain ⟨b1,b2,b3⟩:=d;rintro ⟨rfl,rfl,rfl⟩;rfl
theorem z89 {k:Nat} (c d:zaw) (hc:z2x c) (hk:big<=k):zgn k c d=some (decide (c=d)):=by
  unfold zgn;rw [zoj c.tables d.tables _ (fun x hx y _=>yan x y (hc.tab x hx) hk) hc.tabs (ei hc.tabs hk)];rw [zpl c.steps d.steps _ (fun x hx y _=>yf5 x y (hc.keys x hx) hk) hc.steps (ei hc.steps hk)];by_cases h1:c.version=d.version
  . rw [zAc h1,dq];by_cases h2:c.tables=d.tables
    . rw [zAc (zAa h2),dq];congr 1;rw [decide_eq_decide];exact ⟨fun h3=>(zv8 c d).2 ⟨h1,h2,h3⟩,fun h=>((zv8 c d).1 h).2.2⟩
    . rw [zAd (by simpa using h2),zAb (fun h=>h2 ((zv8 c d).1 h).2.1)]
  . rw [zAd h1,zAb (fun h=>h1 ((zv8 c d).1 h).1)]
theorem yid {k:Nat} (c d:zaw) (hc:z2x c) (hk:big<=k):zky k c d=some (decide (c=d)):=by
  have l0:c.tables.length=d.tables.length->(zdv k c d k 0:Option (Bool ⊕ Unit))=some (if decide (c.tables=d.tables)=true then .inr () else .inl false):=fun hlen=>by
    rw [zcz (L:=zdv k c d) c.tables.length false (fun j=>decide (c.tables[j]?=d.tables[j]?)) hc.tabs (fun m j h=>by
      have h2:j<d.tables.length:=by omega
      rw [zdv,zAc (zaf h),zAc ⟨by omega,zaf h⟩,zAc ⟨by omega,zaf h2⟩,zcg h,zcg h2,yie _ _ (hc.tab _ (fo h)) hk,dq,dv h,dv h2]
      simp only [dp,decide_eq_true_eq]) (fun m=>by rw [zdv,zAd (by omega)]) (ei hc.tabs hk),zli c.tables d.tables hlen]
  have l1:c.steps.length=d.steps.length->(zdu k c d k 0:Option (Bool ⊕ Unit))=some (if decide (c.steps=d.steps)=true then .inr () else .inl false):=fun hlen=>by
    rw [zcz (L:=zdu k c d) c.steps.length false (fun j=>decide (c.steps[j]?=d.steps[j]?)) hc.steps (fun m j h=>by
      have h2:j<d.steps.length:=by omega
      rw [zdu,zAc (zaf h),zAc ⟨by omega,zaf h⟩,zAc ⟨by omega,zaf h2⟩,zcg h,zcg h2,z2g _ _ (hc.keys _ (fo h)) hk,dq,dv h,dv h2]
      simp only [dp,decide_eq_true_eq]) (fun m=>by rw [zdu,zAd (by omega)]) (ei hc.steps hk),zli c.steps d.steps hlen]
  unfold zky;by_cases h1:c.version=d.version
  . rw [zAd (fun q=>q h1)];by_cases h2:c.tables.length=d.tables.length
    . rw [zAd (by omega),dq];by_cases h3:c.steps.length=d.steps.length
      . rw [zAd (by simp only [decide_eq_true_eq];omega),l0 h2,dq];by_cases h4:c.tables=d.tables
        . rw [zAc (zAa h4)];show (Option.bind _ _)=_;rw [l1 h3,dq];by_cases h5:c.steps=d.steps
          . rw [zAc (zAa h5),zAa ((zv8 c d).2 ⟨h1,h4,h5⟩)];rfl
          . rw [zAd (by simpa using h5),zAb (fun h=>h5 ((zv8 c d).1 h).2.2)];rfl
        . rw [zAd (by simpa using h4),zAb (fun h=>h4 ((zv8 c d).1 h).2.1)];rfl
      . rw [zAc (by simp only [decide_eq_true_eq];omega),zAb (fun h=>h3 (by rw [h]))]
    . rw [zAc (by omega),zAb (fun h=>h2 (by rw [h]))];rfl
  . rw [zAc h1,zAb (fun h=>h1 (by rw [h]))];rfl
theorem ydz {k:Nat} (c:zaw) (most:Int) (hc:z2x c) (hk:big<=k):∃ r,znq k c most=some r/\(r=true->c.tables.length<=40/\c.steps.length<=40/\∀ t,t∈c.tables->(t.length:Int)<=most):=by
  have key:∀ (m i:Nat) (q:Int),i<=c.tables.length->c.tables.length - i<m->(∀ j (h:j<c.tables.length),j<i->(c.tables[j].length:Int)<=most)->∃ o,zgz k c most m q (i:Int)=some o/\(o=.inl false\/(∃ q',o=.inr q'/\∀ j (h:j<c.tables.length),(c.tables[j].length:Int)<=most)):=by
    intro m
    induction m with
    |zero=>intro i q h1 h2;omega
    |succ m ih =>
      intro i q h1 h2 hp;rw [zgz];by_cases hi:i<c.tables.length
      . rw [zAc (zaf hi),zAc ⟨by omega,zaf hi⟩,zcg hi,ynl _ most (hc.tab _ (fo hi)) hk,dq]
        cases hf:fewT c.tables[i] most with
        |false=>exact ⟨_,rfl,.inl rfl⟩
        |true =>
          rw [zAc rfl,zgb i (by have:=hc.tabs;simp only [big] at this;omega)];refine ih (i+1) _ (by omega) (by omega) fun j h hj=>?_;rcases o8 j i with w|w
          . exact hp j h w
          . have:j=i:=by omega
            subst this;unfold fewT at hf;simp only [dr,decide_eq_true_eq] at hf;exact hf.2
      . rw [zAd (by omega)];exact ⟨_,rfl,.inr ⟨_,rfl,fun j h=>hp j h (by omega)⟩⟩
  obtain ⟨o,h1,h2⟩:=key k 0 0 (fw _) (by have:=hc.tabs;omega) (fun j _ h=>by omega);unfold znq;rw [show ((0:Nat):Int)=0 from rfl] at h1;rw [h1,dq];rcases h2 with rfl|⟨q,rfl,h3⟩
  . exact ⟨false,rfl,fun h=>by cases h⟩
  . show ∃ r,(if q<=most then (if (c.steps.length:Int)<=40 then some (decide ((c.tables.length:Int)<=40)) else some false) else some false)=some r/\_;split
    . split
      . refine ⟨_,rfl,fun h=>?_⟩;simp only [decide_eq_true_eq] at h;refine ⟨by omega,by omega,fun t ht=>?_⟩;obtain ⟨j,hj,rfl⟩:=List.getElem_of_mem ht;exact h3 j hj
      . exact ⟨false,rfl,fun h=>by cases h⟩
    . exact ⟨false,rfl,fun h=>by cases h⟩
theorem z84 {α:Type} {L:Nat->Int->List α->Nat->Option (List α×Nat)} (n:Nat) (v:Nat->α) (hn:n<big) (hs:∀ m (j:Nat) l,j<n->L (m+1) (j:Int) l j=L m (dw.wrap ((j:Int)+1)) (l++[v j]) (j+1)) (he:∀ m l,L (m+1) (n:Int) l n=some (l,n)) {k:Nat} (hk:n<k):L k 0 [] 0=some ((jc n).map v,n):=by
  have key:∀ (m j:Nat),j<=n->n - j<m->L m (j:Int) ((jc j).map v) j=some ((jc n).map v,n):=by
    intro m
    induction m with
    |zero=>intro j h1 h2;omega
    |succ m ih =>
      intro j h1 h2;rcases o8 j n with h|h
      . rw [hs m j _ h,zgb j (by simp only [big] at hn;omega)];have:=ih (j+1) (by omega) (by omega);rw [List.range_succ,List.map_append] at this;exact this
      . obtain rfl:j=n:=by omega
        exact he m _
  exact key k 0 (fw _) (by omega)
structure yqq (n:Net) (c:zaw):Prop where
  len:c.tables.length=n.nodes.length
  nodes:n.nodes.length<=10
  tabs:∀ j,j<c.tables.length->(c.tables.getD j default).length<=4000
  rules:∀ j,j<n.nodes.length->0<=(n.nodes.getD j default).rules/\(n.nodes.getD j default).rules<=4000
def exAt (n:Net) (c:zaw) (j:Nat):Int:=max 0 (((c.tables.getD j default).length:Int) - (n.nodes.getD j default).rules)
def spAt (n:Net) (c:zaw) (j:Nat):Int:=max 0 ((n.nodes.getD j default).rules - ((c.tables.getD j default).length:Int))
def exL (n:Net) (c:zaw):List Int:=(jc n.nodes.length).map (exAt n c)
def spL (n:Net) (c:zaw):List Int:=(jc n.nodes.length).map (spAt n c)
section
variable {k:Nat} {n:Net} {c:zaw} (hS:yqq n c) (hk:big<=k)
include hS hk
theorem ybj:zhy k n c=some (exL n c):=by
  have hl:=hS.len;have h10:=hS.nodes;unfold zhy zk7
  rw [z84 (L:=zcy k n c 1) n.nodes.length (exAt n c) (by simp only [big];omega) (fun m j l h=>by
    have h1:=hS.tabs j (by omega);have h2:=hS.rules j h;rw [zcy,zAc (by omega),zAc (by omega),zAc (by omega),zAc (by omega),zjy,zjy,wr64 (n:=((c.tables.getD j default).length:Int) - (n.nodes.getD j default).rules) (by omega),Int.one_mul,wr64 (n:=((c.tables.getD j default).length:Int) - (n.nodes.getD j default).rules) (by omega)]
    rfl) (fun m l=>by rw [zcy,zAd (by omega)]) (by simp only [big] at hk;omega),dq]
  simp only [ec,nm,if_true,dq];rfl
theorem yf4:zjg k n c=some (spL n c):=by
  have hl:=hS.len;have h10:=hS.nodes;unfold zjg zk7
  rw [z84 (L:=zcy k n c (-1)) n.nodes.length (spAt n c) (by simp only [big];omega) (fun m j l h=>by
    have h1:=hS.tabs j (by omega);have h2:=hS.rules j h;rw [zcy,zAc (by omega),zAc (by omega),zAc (by omega),zAc (by omega),zjy,zjy,wr64 (n:=((c.tables.getD j default).length:Int) - (n.nodes.getD j default).rules) (by omega),wr64 (n:=-1*(((c.tables.getD j default).length:Int) - (n.nodes.getD j default).rules)) (by omega)];rw [show -1*(((c.tables.getD j default).length:Int) - (n.nodes.getD j default).rules)=(n.nodes.getD j default).rules - ((c.tables.getD j default).length:Int) by omega]
    rfl) (fun m l=>by rw [zcy,zAd (by omega)]) (by simp only [big] at hk;omega),dq]
  simp only [ec,nm,if_true,dq];rfl
theorem yay:zhv k n c=some (exL n c):=by
  have hl:=hS.len;have h10:=hS.nodes;unfold zhv
  rw [z84 (L:=zdg k n c) n.nodes.length (exAt n c) (by simp only [big];omega) (fun m j l h=>by
    have h1:=hS.tabs j (by omega);have h2:=hS.rules j h;rw [zdg,zAc (by omega),zAc (by omega),zAc (by omega),zAc (by omega),zjy,zjy,wr64 (n:=((c.tables.getD j default).length:Int) - (n.nodes.getD j default).rules) (by omega)]
    rfl) (fun m l=>by rw [zdg,zAd (by omega)]) (by simp only [big] at hk;omega),dq]
  simp only [ec,nm,if_true];rfl
theorem ydx:zjb k n c=some (spL n c):=by
  have hl:=hS.len;have h10:=hS.nodes;unfold zjb
  rw [z84 (L:=zdt k n c) n.nodes.length (spAt n c) (by simp only [big];omega) (fun m j l h=>by
    have h1:=hS.tabs j (by omega);have h2:=hS.rules j h;rw [zdt,zAc (by omega),zAc (by omega),zAc (by omega),zAc (by omega),zjy,zjy,wr64 (n:=(n.nodes.getD j default).rules - ((c.tables.getD j default).length:Int)) (by omega)]
    rfl) (fun m l=>by rw [zdt,zAd (by omega)]) (by simp only [big] at hk;omega),dq]
  simp only [ec,nm,if_true];rfl
end
theorem zmz {k:Nat} (a b:List Int) (hl:a.length<big) (hk:big<=k):zde k a b=some (decide (a=b)):=by
  unfold zde;by_cases hlen:a.length=b.length
  . rw [zAd (by omega),zcz (L:=zb9 k a b) a.length false (fun j=>decide (a[j]?=b[j]?)) hl (fun m j h=>by
      have h2:j<b.length:=by omega
      rw [zb9,zAc (zaf h),zAc ⟨by omega,zaf h⟩,zAc ⟨by omega,zaf h2⟩,zcg h,zcg h2,dv h,dv h2];by_cases q:a[j]=b[j]
      . rw [zAd (fun h=>h q),zAc (by simp [q])]
      . rw [zAc q,zAd (by simpa using q)]) (fun m=>by rw [zb9,zAd (by omega)]) (ei hl hk),zli a b hlen,dq]
    cases decide (a=b)<;>rfl
  . rw [zAc (by omega)];congr 1;exact (zAb fun h=>hlen (by rw [h])).symm
theorem zut {k:Nat} (a:List zgk) (hl:a.length<big) (hr:∀ x,x∈a->x.rules.length<big) (hk:big<=k):ze5 k a a=some true:=by
  unfold ze5
  rw [zAd (by omega),zlz (L:=zbk k a a) a false (fun _=>true) hl (fun m j h=>by
    rw [zbk,zAc (zaf h),zAc ⟨by omega,zaf h⟩,zAc ⟨by omega,zaf h⟩,zcg h,zmz _ _ (hr _ (fo h)) hk,dq,zAc (zAa rfl),zAd (fun q=>q rfl),zAd (fun q=>q rfl)]
    rfl) (fun m=>by rw [zbk,zAd (by omega)]) (ei hl hk),dq]
  have:(a.all fun _=>true)=true:=by simp
  rw [this];rfl
/-! bits of words -/
theorem ycg {a b:Nat} (ha:a<2 ^ 64) (hb:b<2 ^ 64) (i:Nat):(a - (a &&& b)).testBit i=(a.testBit i && !b.testBit i):=by
  rw [<- zwe 64 ha hb,jf,show 2 ^ 64 - 1 - b=2 ^ 64 - (b+1) by omega,Nat.testBit_two_pow_sub_succ hb];by_cases hi:i<64
  . simp [hi]
  . have:a.testBit i=false:=Nat.testBit_lt_two_pow (ei ha (Nat.pow_le_pow_right (by decide) (by omega)));simp [this]
theorem zzm {a b:Nat} (ha:a<65536) (hb:b<65536) (h:∀ t,t<16->a.testBit t=b.testBit t):a=b:=by
  apply mv;intro t;by_cases ht:t<16
  . exact h t ht
  . have e:65536<=2 ^ t:=Nat.pow_le_pow_right (n:=2) (by decide) (show 16<=t by omega);rw [Nat.testBit_lt_two_pow (ei ha e),Nat.testBit_lt_two_pow (ei hb e)]
theorem z65 {t s:Nat}:(2 ^ t).testBit s=decide (t=s):=Nat.testBit_two_pow
theorem yhq {w t:Nat} (hw:w<65536) (ht:t<16) (h:w.testBit t=false):w+2 ^ t=w ||| 2 ^ t:=by
  have hp:2 ^ t<65536:=Nat.pow_lt_pow_right (by decide) ht;have ho:w ||| 2 ^ t<2 ^ 16:=Nat.or_lt_two_pow hw hp
  have e1:(w ||| 2 ^ t) &&& 2 ^ t=2 ^ t:=by
    apply mv;intro s;rw [jf,mq];cases (2 ^ t).testBit s<;>simp
  have e2:(w ||| 2 ^ t) - ((w ||| 2 ^ t) &&& 2 ^ t)=w:=by
    apply mv;intro s;rw [ycg (by omega) (by omega),mq,z65];by_cases hs:t=s
    . subst hs;simp [h]
    . simp [hs]
  have e3:2 ^ t<=w ||| 2 ^ t:=Nat.right_le_or
  omega
theorem ynb {w t:Nat} (hw:w<65536) (ht:t<16) (h:w.testBit t=true):2 ^ t<=w/\∀ s,(w - 2 ^ t).testBit s=(w.testBit s && !decide (t=s)):=by
  have hp:2 ^ t<65536:=Nat.pow_lt_pow_right (by decide) ht
  have e1:w &&& 2 ^ t=2 ^ t:=by
    apply mv;intro s;rw [jf,z65];by_cases hs:t=s
    . subst hs;simp [h]
    . simp [hs]
  have h1:w &&& 2 ^ t<=w:=mg;refine ⟨by omega,fun s=>?_⟩;have:=ycg (a:=w) (b:=2 ^ t) (by omega) (by omega) s;rw [e1,z65] at this;exact this
/-! heads -/
def hw (h:Ar 10) (i:Nat):Nat:=(gx h.l (i:Int)).toNat
def hbit (h:Ar 10) (i:Nat):Bool:=(hw h (i / 16)).testBit (15 - i % 16)
theorem zih {h:Ar 10} (hr:za3 h=true) {i:Nat} (hi:i<10):gx h.l (i:Int)=(hw h i:Int)/\hw h i<65536:=by
  obtain ⟨n,h1,h2⟩:=zlt hr hi;unfold hw;rw [h1];exact ⟨by simp,by simpa using h2⟩
theorem yab (j t:Nat) (hj:j<10) (ht:t<16):(16*j+(15 - t)) / 16=j/\15 - (16*j+(15 - t)) % 16=t/\16*j+(15 - t)<160:=by omega
theorem zl2 (h:Ar 10) {j t:Nat} (hj:j<10) (ht:t<16):hbit h (16*j+(15 - t))=(hw h j).testBit t:=by
  obtain ⟨a,b,_⟩:=yab j t hj ht;unfold hbit;rw [a,b]
theorem z2c {h:Ar 10} (hh:∀ j:Nat,j<10->∃ n:Nat,gx h.l (j:Int)=(n:Int)/\n<65536):za3 h=true:=by
  unfold za3;rw [zwf];intro j hj;have hj':j<10:=by rw [<- h.h];exact hj
  obtain ⟨n,h1,h2⟩:=hh j hj';rw [zcg hj] at h1;rw [h1];exact zAa (by omega)
/-! one bit -/
theorem zw5 {k i:Nat} (hi:i<160) (hk:16<k):zje k (i:Int)=some ((2 ^ (15 - i % 16):Nat):Int):=by
  have key:∀ m kk,kk<=i % 16->i % 16 - kk<m->ze0 k (i:Int) m ((2 ^ (15 - kk):Nat):Int) (kk:Int)=some ((2 ^ (15 - i % 16):Nat):Int):=by
    intro m
    induction m with
    |zero=>intro kk h1 h2;omega
    |succ m ih =>
      intro kk h1 h2;rw [ze0,zAc ⟨by omega,by decide⟩];by_cases c:kk<i % 16
      . have hp:2 ^ (15 - kk)=2 ^ (15 - (kk+1))*2:=by rw [<- Nat.pow_succ];congr 1;omega
        have hb:2 ^ (15 - kk)<=2 ^ 15:=Nat.pow_le_pow_right (by decide) (by omega);rw [zAc (by omega),zAc ⟨by omega,by decide⟩,zgb kk (by omega)];have e:dw.wrap (((2 ^ (15 - kk):Nat):Int) / 2)=((2 ^ (15 - (kk+1)):Nat):Int):=by rw [wr64 (by omega)];omega
        rw [e];exact ih (kk+1) (by omega) (by omega)
      . rw [zAd (by omega),show kk=i % 16 by omega]
  unfold zje;have:=key k 0 (fw _) (by omega);rw [show ((2 ^ (15 - 0):Nat):Int)=32768 by decide] at this;rw [show (0:Int)=((0:Nat):Int) from rfl,this];rfl
theorem z62 {i:Nat} (hi:i<160):dw.wrap ((i:Int) / 16)=((i / 16:Nat):Int):=by rw [wr64 (by omega)];omega
theorem zra {k i:Nat} {h:Ar 10} (hr:za3 h=true) (hi:i<160) (hk:16<k):zh7 k h (i:Int)=some ((hbit h i).toNat:Int):=by
  unfold zh7;obtain ⟨a1,a2⟩:=zih hr (i:=i / 16) (by omega);rw [zAc ⟨by omega,by decide⟩,z62 hi,zAc ⟨by omega,by omega⟩,zw5 hi hk,dq,a1];have hp:0<2 ^ (15 - i % 16):=Nat.two_pow_pos _;rw [zAc ⟨by omega,by omega⟩]
  have e:dw.wrap ((hw h (i / 16):Int) / ((2 ^ (15 - i % 16):Nat):Int))=((hw h (i / 16) / 2 ^ (15 - i % 16):Nat):Int):=by
    have:hw h (i / 16) / 2 ^ (15 - i % 16)<=hw h (i / 16):=Nat.div_le_self _ _;rw [<- Int.natCast_ediv];generalize hw h (i / 16) / 2 ^ (15 - i % 16)=q at *;rw [wr64 (by omega)]
  rw [e];unfold hbit;rw [Nat.testBit_eq_decide_div_mod_eq];generalize hw h (i / 16) / 2 ^ (15 - i % 16)=q at *;rw [zAc ⟨by omega,by decide⟩];congr 1;by_cases c:q % 2=1
  . rw [zAa c];simp only [Bool.toNat_true];omega
  . rw [zAb c];simp only [nz];omega
/-! matching -/
theorem zw1 {b h m:Nat} (hb:b<65536) (hh:h<65536) (hm:m<65536):(b ^^^ h) &&& m=0↔∀ t,t<16->m.testBit t=true->b.testBit t=h.testBit t:=by
  constructor
  . intro h0 t ht h1;have:=congrArg (fun x=>Nat.testBit x t) h0;simp only [jf,Nat.testBit_xor,Nat.zero_testBit,h1,Bool.and_true] at this;revert this;cases b.testBit t<;>cases h.testBit t<;>simp
  . intro h0;apply zzm (oq Nat.and_le_right hm) (by decide);intro t ht;simp only [jf,Nat.testBit_xor,Nat.zero_testBit]
    cases h1:m.testBit t with
    |false=>simp
    |true=>rw [h0 t ht h1];simp
theorem zfs {p:Pat}:zbb p=true↔za3 p.mask=true/\za3 p.bits=true/\∀ i,i<160->hbit p.bits i=true->hbit p.mask i=true:=by
  unfold zbb
  simp only [dr];refine and_congr_right fun hm=>and_congr_right fun hb=>?_;unfold zo0;rw [ez]
  have key:∀ j:Nat,j<10->(decide (iAnd .i64 (gx p.bits.l (j:Int)) (gx p.mask.l (j:Int))=gx p.bits.l (j:Int))=true↔∀ t,t<16->(hw p.bits j).testBit t=true->(hw p.mask j).testBit t=true):=by
    intro j hj;obtain ⟨a1,a2⟩:=zih hb hj;obtain ⟨b1,b2⟩:=zih hm hj;rw [a1,b1,zqq (by omega) (by omega),decide_eq_true_eq];constructor
    . intro h t ht h1;have h':hw p.bits j &&& hw p.mask j=hw p.bits j:=by omega
      rw [<- h',jf] at h1;simp only [dr] at h1;exact h1.2
    . intro h;congr 1;apply zzm (oq mg a2) a2;intro t ht;rw [jf]
      cases h1:(hw p.bits j).testBit t with
      |false=>rfl
      |true=>rw [h t ht h1];rfl
  constructor
  . intro h i hi h1;have:=(key (i / 16) (by omega)).1 (h _ (jx.2 (by omega))) (15 - i % 16) (by omega);exact this h1
  . intro h j hj;have hj':=jx.1 hj
    exact (key j hj').2 fun t ht h1=>by
      rw [<- zl2 p.mask hj' ht];exact h _ (yab j t hj' ht).2.2 (by rw [zl2 p.bits hj' ht];exact h1)
theorem lt160 {a:Nat} (h:a<160):(a:Int)<160:=by omega
theorem z99 {a b:Bool}:((a.toNat:Int)≠(b.toNat:Int))↔a≠b:=by cases a<;>cases b<;>decide
theorem z1c {a:Bool}:((a.toNat:Int)=1)↔a=true:=by cases a<;>decide
/-! rewriting -/
theorem zvs {n:Nat} {a:Ar n} {i:Nat} (v:Int) (hi:i<n):gx (a.set (i:Int) v).l (i:Int)=v:=by
  show (a.l.set i v).getD i default=v;rw [ef,List.getElem?_set_self (by rw [a.h];exact hi)];rfl
theorem z3p {n:Nat} {a:Ar n} {i j:Nat} (v:Int) (hj:j<n) (h:i≠j):gx (a.set (i:Int) v).l (j:Int)=gx a.l (j:Int):=by
  show (a.l.set i v).getD j default=a.l.getD j default;rw [ef,ef,List.getElem?_set_ne h]
theorem z7e {k i:Nat} {h:Ar 10} {b:Bool} (hr:za3 h=true) (hi:i<160) (hk:16<k):∃ x,zlo k h (i:Int) (b.toNat:Int)=some x/\za3 x=true/\∀ j,j<160->hbit x j=if j=i then b else hbit h j:=by
  unfold zlo;obtain ⟨a1,a2⟩:=zih hr (i:=i / 16) (by omega);rw [zAc ⟨by omega,by decide⟩,z62 hi,zAc ⟨by omega,by omega⟩,zra hr hi hk,dq,zw5 hi hk,dq,a1];have ht:15 - i % 16<16:=by omega
  have hp:2 ^ (15 - i % 16)<65536:=Nat.pow_lt_pow_right (by decide) ht;have hpp:0<2 ^ (15 - i % 16):=Nat.two_pow_pos _;have hi10:i / 16<10:=by omega
  -- the new word
  have hnew:∃ w:Nat,dw.wrap ((hw h (i / 16):Int)+dw.wrap (dw.wrap ((b.toNat:Int) - ((hbit h i).toNat:Int))*((2 ^ (15 - i % 16):Nat):Int)))=(w:Int)/\w<65536/\∀ s,w.testBit s=if s=15 - i % 16 then b else (hw h (i / 16)).testBit s:=by
    cases hb:hbit h i with
    |false =>
      have hb':(hw h (i / 16)).testBit (15 - i % 16)=false:=hb
      cases b with
      |false =>
        refine ⟨hw h (i / 16),?_,a2,fun s=>?_⟩
        . simp only [nz,Int.natCast_zero,Int.sub_self];rw [wr64 (n:=0) (by omega),Int.zero_mul,wr64 (n:=0) (by omega),Int.add_zero,wr64 (by omega)]
        . by_cases hs:s=15 - i % 16
          . rw [zAc hs,hs,hb']
          . rw [zAd hs]
      |true =>
        refine ⟨hw h (i / 16)+2 ^ (15 - i % 16),?_,?_,fun s=>?_⟩
        . simp only [Bool.toNat_true,nz];rw [wr64 (n:=((1:Nat):Int) - ((0:Nat):Int)) (by omega),show ((1:Nat):Int) - ((0:Nat):Int)=1 by omega,Int.one_mul,wr64 (n:=((2 ^ (15 - i % 16):Nat):Int)) (by omega),wr64 (by omega)];omega
        . rw [yhq a2 ht hb'];exact Nat.or_lt_two_pow (n:=16) a2 hp
        . rw [yhq a2 ht hb',mq,z65];by_cases hs:s=15 - i % 16
          . rw [zAc hs];simp [hs]
          . rw [zAd hs];simp [Ne.symm hs]
    |true =>
      have hb':(hw h (i / 16)).testBit (15 - i % 16)=true:=hb;obtain ⟨g1,g2⟩:=ynb a2 ht hb'
      cases b with
      |true =>
        refine ⟨hw h (i / 16),?_,a2,fun s=>?_⟩
        . simp only [Int.sub_self];rw [wr64 (n:=0) (by omega),Int.zero_mul,wr64 (n:=0) (by omega),Int.add_zero,wr64 (by omega)]
        . by_cases hs:s=15 - i % 16
          . rw [zAc hs,hs,hb']
          . rw [zAd hs]
      |false =>
        refine ⟨hw h (i / 16) - 2 ^ (15 - i % 16),?_,by omega,fun s=>?_⟩
        . simp only [Bool.toNat_true,nz];rw [wr64 (n:=((0:Nat):Int) - ((1:Nat):Int)) (by omega),show ((0:Nat):Int) - ((1:Nat):Int)=-1 by omega,wr64 (n:=-1*((2 ^ (15 - i % 16):Nat):Int)) (by omega),wr64 (by omega)];omega
        . rw [g2];by_cases hs:s=15 - i % 16
          . rw [zAc hs];simp [hs]
          . rw [zAd hs];simp [Ne.symm hs]
  obtain ⟨w,e1,e2,e3⟩:=hnew;refine ⟨_,rfl,?_,?_⟩
  . rw [e1];refine z2c fun j hj=>?_;by_cases hij:i / 16=j
    . subst hij;exact ⟨w,zvs _ hj,e2⟩
    . rw [z3p _ hj hij];exact ⟨_,(zih hr hj).1,(zih hr hj).2⟩
  . intro j hj;rw [e1];unfold hbit;have hj10:j / 16<10:=by omega
    by_cases hij:i / 16=j / 16
    . have:hw (h.set ((i / 16:Nat):Int) (w:Int)) (j / 16)=w:=by
        unfold hw;rw [<- hij,zvs _ hi10];rfl
      rw [this,e3,<- hij];by_cases hm:j=i
      . subst hm;rw [zAc rfl,zAc rfl]
      . rw [zAd hm,zAd (by omega)]
    . have:hw (h.set ((i / 16:Nat):Int) (w:Int)) (j / 16)=hw h (j / 16):=by
        unfold hw;rw [z3p _ hj10 hij]
      rw [this,zAd (fun hm=>hij (by rw [hm]))]
def zob (p q:Pat):Bool:=(jc 160).all fun i=>!(hbit p.mask i && hbit q.mask i) || (hbit p.bits i == hbit q.bits i)
theorem zm2 {p q:Pat}:zob p q=true↔∀ i,i<160->hbit p.mask i=true->hbit q.mask i=true->hbit p.bits i=hbit q.bits i:=by
  unfold zob;rw [ez];constructor
  . intro hh i hi hm hq;have:=hh i (jx.2 hi);rw [hm,hq] at this;simpa using this
  . intro hh i hi;have:=hh i (jx.1 hi)
    cases hm:hbit p.mask i with
    |false=>rfl
    |true =>
      cases hq:hbit q.mask i with
      |false=>rfl
      |true=>simpa using this hm hq
theorem z4t {k:Nat} {p q:Pat} (hp:zbb p=true) (hq:zbb q=true) (hk:10<k):ze1 k p q=some (zob p q):=by
  obtain ⟨pm,pb,_⟩:=zfs.1 hp;obtain ⟨qm,qb,_⟩:=zfs.1 hq;unfold ze1
  rw [zcz (L:=zcd k p q) 10 false (fun j=>decide ((hw p.bits j ^^^ hw q.bits j) &&& (hw p.mask j &&& hw q.mask j)=0)) (by decide) (fun m j hj=>by
    obtain ⟨a1,a2⟩:=zih pb hj;obtain ⟨b1,b2⟩:=zih pm hj;obtain ⟨c1,c2⟩:=zih qb hj;obtain ⟨d1,d2⟩:=zih qm hj;have hx:hw p.bits j ^^^ hw q.bits j<2 ^ 16:=Nat.xor_lt_two_pow a2 c2;have hy:(hw p.bits j ^^^ hw q.bits j) &&& hw p.mask j<=hw p.mask j:=Nat.and_le_right;rw [zcd,zAc (lt10 hj),zAc ⟨by omega,lt10 hj⟩,a1,b1,c1,d1,yi4 (by omega) (by omega),zqq (by omega) (by omega),zqq (by omega) (by omega),Nat.and_assoc];by_cases c:(hw p.bits j ^^^ hw q.bits j) &&& (hw p.mask j &&& hw q.mask j)=0
    . rw [zAd (by omega),zAc (zAa c)]
    . rw [zAc (by omega),zAd (by rw [decide_eq_true_eq];exact c)]) (fun m=>by rw [zcd];exact zAd (by decide)) hk,dq]
  have e:(jc 10).all (fun j=>decide ((hw p.bits j ^^^ hw q.bits j) &&& (hw p.mask j &&& hw q.mask j)=0))=zob p q:=by
    rw [Bool.eq_iff_iff,ez,zm2];have hand:∀ j,j<10->hw p.mask j &&& hw q.mask j<65536:=fun j hj=>oq mg (zih pm hj).2;constructor
    . intro hall i hi h1 h2;have:=of_decide_eq_true (hall (i / 16) (jx.2 (by omega)));refine (zw1 (zih pb (by omega)).2 (zih qb (by omega)).2 (hand (i / 16) (by omega))).1 this (15 - i % 16) (by omega) ?_;rw [jf];unfold hbit at h1 h2;rw [h1,h2];rfl
    . intro hall j hj;have hj':=jx.1 hj;refine zAa ((zw1 (zih pb hj').2 (zih qb hj').2 (hand j hj')).2 fun t ht h1=>?_);rw [jf,dr] at h1;rw [<- zl2 p.bits hj' ht,<- zl2 q.bits hj' ht];exact hall _ (yab j t hj' ht).2.2 (by rw [zl2 p.mask hj' ht];exact h1.1) (by rw [zl2 q.mask hj' ht];exact h1.2)
  rw [e];cases zob p q<;>rfl
structure Meet (p q r:Pat):Prop where
  mask:za3 r.mask=true
  bits:za3 r.bits=true
  hm:∀ j,j<160->hbit r.mask j=(hbit p.mask j || hbit q.mask j)
  hb:∀ j,j<160->hbit r.bits j=if hbit q.mask j=true then hbit q.bits j else hbit p.bits j
theorem z4r {a:Bool}:((a.toNat:Int)=0)↔a=false:=by cases a<;>decide
structure AndI (p q:Pat) (i:Nat) (x y:Ar 10):Prop where
  rx:za3 x=true
  ry:za3 y=true
  hx:∀ j,j<160->hbit x j=(hbit p.mask j || (decide (j<i) && hbit q.mask j))
  hy:∀ j,j<160->hbit y j=if (decide (j<i) && hbit q.mask j)=true then hbit q.bits j else hbit p.bits j
  ok:∀ j,j<i->hbit p.mask j=true->hbit q.mask j=true->hbit p.bits j=hbit q.bits j
theorem ynm {k:Nat} {p q:Pat} (hp:zbb p=true) (hq:zbb q=true) (hk:160<k):∃ r,zpv k p q=some r/\((zob p q=false/\r.2=false)\/(zob p q=true/\r.2=true/\Meet p q r.1)):=by
  obtain ⟨pm,pb,pw⟩:=zfs.1 hp;obtain ⟨qm,qb,qw⟩:=zfs.1 hq
  have key:∀ m i x y,i<=160->160 - i<m->AndI p q i x y->∃ o,zfp k q m (i:Int) x y=some o/\((∃ r,o=.inl r/\r.2=false/\zob p q=false)\/∃ x y,o=.inr (x,y)/\AndI p q 160 x y):=by
    intro m
    induction m with
    |zero=>intro i x y h1 h2;omega
    |succ m ih =>
      intro i x y h1 h2 hI;rw [zfp];by_cases c:i<160
      . rw [zAc (lt160 c),zra qm c (by omega),dq,zgb i (by omega)];by_cases c1:hbit q.mask i=false
        . rw [zAc (z4r.2 c1)]
          have hd:∀ j,(decide (j<i+1) && hbit q.mask j)=(decide (j<i) && hbit q.mask j):=fun j=>by
            by_cases e:j=i
            . subst e;rw [c1];simp
            . rw [show decide (j<i+1)=decide (j<i) from decide_eq_decide.2 (by omega)]
          refine ih (i+1) x y (by omega) (by omega) ⟨hI.rx,hI.ry,fun j hj=>by rw [hd,hI.hx j hj],fun j hj=>by rw [hd,hI.hy j hj],fun j hj h3 h4=>?_⟩;by_cases e:j=i
          . rw [e,c1] at h4;cases h4
          . exact hI.ok j (by omega) h3 h4
        . have c1':hbit q.mask i=true:=by simpa using c1
          have xi:hbit x i=hbit p.mask i:=by rw [hI.hx i c];simp
          have yi:hbit y i=hbit p.bits i:=by rw [hI.hy i c,zAd (by simp)]
          rw [zAd (fun h=>c1 (z4r.1 h)),zra hI.rx c (by omega),dq,zra hI.ry c (by omega),dq,zra qb c (by omega),dq,xi,yi];by_cases c2:hbit p.mask i=true/\hbit p.bits i≠hbit q.bits i
          . rw [zAc (z1c.2 c2.1),dq,zAc (zAa (z99.2 c2.2))];refine ⟨_,rfl,.inl ⟨_,rfl,rfl,?_⟩⟩
            cases ho:zob p q with
            |false=>rfl
            |true=>exact absurd (zm2.1 ho i c c2.1 c1') c2.2
          . have e2:(if ((hbit p.mask i).toNat:Int)=1 then some (decide (((hbit p.bits i).toNat:Int)≠((hbit q.bits i).toNat:Int))) else some false)=some false:=by
              by_cases c3:hbit p.mask i=true
              . have:hbit p.bits i=hbit q.bits i:=lc fun h=>c2 ⟨c3,h⟩;rw [zAc (z1c.2 c3),zAb (fun h=>(z99.1 h) this)]
              . rw [zAd (fun h=>c3 (z1c.1 h))]
            rw [e2,dq,zAd (by simp)];obtain ⟨x2,s1,s2,s3⟩:=z7e (k:=k) (b:=true) hI.rx c (by omega);obtain ⟨y2,t1,t2,t3⟩:=z7e (k:=k) (b:=hbit q.bits i) hI.ry c (by omega);have s1':zlo k x (i:Int) 1=some x2:=s1;rw [s1',dq,dq,t1,dq];refine ih (i+1) x2 y2 (by omega) (by omega) ⟨s2,t2,fun j hj=>?_,fun j hj=>?_,fun j hj h3 h4=>?_⟩
            . rw [s3 j hj];by_cases e:j=i
              . subst e;rw [zAc rfl,c1'];simp
              . rw [zAd e,hI.hx j hj,show decide (j<i+1)=decide (j<i) from decide_eq_decide.2 (by omega)]
            . rw [t3 j hj];by_cases e:j=i
              . subst e;rw [zAc rfl,c1',zAc (by simp)]
              . rw [zAd e,hI.hy j hj,show decide (j<i+1)=decide (j<i) from decide_eq_decide.2 (by omega)]
            . by_cases e:j=i
              . subst e;exact lc fun h=>c2 ⟨h3,h⟩
              . exact hI.ok j (by omega) h3 h4
      . obtain rfl:i=160:=by omega
        rw [zAd (by decide)];exact ⟨_,rfl,.inr ⟨x,y,rfl,hI⟩⟩
  obtain ⟨o,e,h⟩:=key k 0 p.mask p.bits (by omega) (by omega) ⟨pm,pb,fun j hj=>by simp,fun j hj=>by simp,fun j hj=>by omega⟩;unfold zpv;rw [show ((0:Nat):Int)=0 from rfl] at e;rw [e,dq];rcases h with ⟨r,rfl,h1,h2⟩|⟨x,y,rfl,hI⟩
  . exact ⟨r,rfl,.inl ⟨h2,h1⟩⟩
  . refine ⟨_,rfl,.inr ⟨zm2.2 fun i hi=>hI.ok i hi,rfl,hI.rx,hI.ry,fun j hj=>?_,fun j hj=>?_⟩⟩
    . rw [hI.hx j hj];simp [hj]
    . rw [hI.hy j hj];simp [hj]
theorem z5t {k:Nat} {p q:Pat} (hp:zbb p=true) (hq:zbb q=true) (hk:160<k):zg5 k p q=some (zob p q):=by
  obtain ⟨r,e,h⟩:=ynm hp hq hk;unfold zg5;rw [e,dq];rcases h with ⟨h1,h2⟩|⟨h1,h2,_⟩<;>rw [h1,h2]
def spP (s:Spot):Pat:=⟨((zA 10).set 0 65535).set 9 65535,((zA 10).set 0 s.port).set 9 s.tag⟩
theorem zz3 (s:Spot):(spP s).mask.l=[65535,0,0,0,0,0,0,0,0,65535]:=rfl
theorem z7c (s:Spot):(spP s).bits.l=[s.port,0,0,0,0,0,0,0,0,s.tag]:=rfl
theorem yqk {x:Int} (h:zfr x=true):iAnd .i64 x 65535=x:=by
  obtain ⟨n,rfl,hn⟩:=zxw h;rw [show (65535:Int)=((65535:Nat):Int) from rfl,zqq (by omega) (by omega)];congr 1;exact Nat.and_two_pow_sub_one_of_lt_two_pow (n:=16) hn
theorem zub {s:Spot} (hp:zfr s.port=true) (ht:zfr s.tag=true):zbb (spP s)=true:=by
  unfold zbb
  have h1:za3 (spP s).mask=true:=by unfold za3;rw [zz3];rfl
  have h2:za3 (spP s).bits=true:=by
    unfold za3;rw [z7c];simp only [List.all_cons,List.all_nil,hp,ht];rfl
  have h3:zo0 (spP s)=true:=by
    unfold zo0;rw [zz3,z7c,ez];intro i hi;have hi:=jx.1 hi;have z:iAnd .i64 0 0=0:=rfl;rw [decide_eq_true_eq];rcases i with _|_|_|_|_|_|_|_|_|_|i
    . exact yqk hp
    . exact z
    . exact z
    . exact z
    . exact z
    . exact z
    . exact z
    . exact z
    . exact z
    . exact yqk ht
    . omega
  rw [h1,h2,h3];rfl
theorem z7b (s:Spot) {i:Nat} (hi:i<160):hbit (spP s).mask i=decide (i / 16=0\/i / 16=9):=by
  unfold hbit hw;have hj:i / 16<10:=by omega
  have hb:15 - i % 16<16:=by omega
  rw [zz3];generalize 15 - i % 16=t at hb;generalize i / 16=j at hj
  have e1:((65535:Int)).toNat.testBit t=true:=by
    show (65535:Nat).testBit t=true;rw [show (65535:Nat)=2 ^ 16 - 1 from rfl,i7];exact zAa hb
  have e0:((0:Int)).toNat.testBit t=false:=Nat.zero_testBit t;rcases j with _|_|_|_|_|_|_|_|_|_|j
  . exact e1
  . exact e0
  . exact e0
  . exact e0
  . exact e0
  . exact e0
  . exact e0
  . exact e0
  . exact e0
  . exact e1
  . omega
theorem yfx {h:Ar 10} {j t:Nat} (hj:j<10) (ht:t<16) (hf:gx h.l (j:Int)=65535):hbit h (16*j+(15 - t))=true:=by
  rw [zl2 h hj ht];unfold hw;rw [hf];show (65535:Nat).testBit t=true;rw [show (65535:Nat)=2 ^ 16 - 1 from rfl,i7];exact zAa ht
theorem zxz {r:Rule} {s:Spot} (hr:zbb r.mat=true) (hp:zfr s.port=true) (ht:zfr s.tag=true) (he:exB r=true):zob r.mat (spP s)=decide (za2 r=s):=by
  obtain ⟨pm,pb,_⟩:=zfs.1 hr;obtain ⟨sm,sb,_⟩:=zfs.1 (zub hp ht);unfold exB at he;simp only [dr,decide_eq_true_eq] at he
  have word:∀ j:Nat,(j=0\/j=9)->(∀ i,i<160->hbit r.mat.mask i=true->hbit (spP s).mask i=true->hbit r.mat.bits i=hbit (spP s).bits i)->gx r.mat.bits.l (j:Int)=gx (spP s).bits.l (j:Int):=by
    intro j hj0 h;have hj:j<10:=by omega
    obtain ⟨a1,a2⟩:=zih pb hj;obtain ⟨b1,b2⟩:=zih sb hj;rw [a1,b1];congr 1;refine zzm a2 b2 fun t ht'=>?_;have hi:=yab j t hj ht';have:=h (16*j+(15 - t)) hi.2.2 (yfx hj ht' (by rcases hj0 with rfl|rfl;exact he.1;exact he.2)) (by rw [z7b s hi.2.2,hi.1];exact zAa hj0);rw [zl2 _ hj ht',zl2 _ hj ht'] at this;exact this
  by_cases hs:za2 r=s
  . rw [zAa hs,zm2];intro i hi _ h2;rw [z7b s hi,decide_eq_true_eq] at h2;unfold hbit
    have e:hw r.mat.bits (i / 16)=hw (spP s).bits (i / 16):=by
      unfold hw;rw [<- hs];rcases h2 with h2|h2<;>rw [h2]<;>rfl
    rw [e]
  . rw [zAb hs]
    cases ho:zob r.mat (spP s) with
    |false=>rfl
    |true =>
      have h:=zm2.1 ho;have h0:=word 0 (.inl rfl) h;have h9:=word 9 (.inr rfl) h;refine absurd ?_ hs;unfold za2;obtain ⟨p,t⟩:=s;have e0:gx r.mat.bits.l 0=p:=h0;have e9:gx r.mat.bits.l 9=t:=h9;rw [e0,e9]
def qs (s:Spot) (r:Rule):Bool:=exB r && decide (za2 r=s)
def idxF (q:Rule->Bool):List Rule->Int->List Int
  |[],_=>[]
  |r :: l,i=>if q r=true then i :: idxF q l (i+1) else idxF q l (i+1)
theorem z3g (q:Rule->Bool) (r:Rule):∀ (l:List Rule) (i:Int),idxF q (l++[r]) i=idxF q l i++(if q r=true then [i+(l.length:Int)] else [])
  |[],i=>by simp [idxF]
  |x :: l,i=>by
    rw [fd,idxF,idxF,z3g q r l,eh];have e:i+1+(l.length:Int)=i+((l.length+1:Nat):Int):=by omega
    rw [e];split<;>rfl
theorem z0p (q:Rule->Bool):∀ (l:List Rule) (i:Int),(idxF q l i).length<=l.length
  |[],i=>dz _
  |x :: l,i=>by
    rw [idxF];have:=z0p q l (i+1);split<;>simp only [eh]<;>omega
def zes:List Rule->List Spot->List Spot
  |[],K=>K
  |r :: l,K=>zes l (if exB r=true/\za2 r ∉ K then K++[za2 r] else K)
def zrb (a:List (Spot×List Int)) (s:Spot):List Int:=match a.find? (fun p=>decide (p.1=s)) with|some p=>p.2|none=>[]
theorem yah (s0:Spot) (i:Int) (s:Spot):∀ a:List (Spot×List Int),zrb (addS s0 i a) s=if s=s0 then zrb a s++[i] else zrb a s
  |[]=>by
    unfold addS zrb;by_cases h:s=s0
    . subst h;simp
    . rw [zAd h];simp [Ne.symm h]
  |(s',l) :: r=>by
    unfold addS;by_cases h:s0=s'
    . rw [zAc h];subst h;unfold zrb;by_cases h2:s=s0
      . subst h2;simp
      . simp [Ne.symm h2,h2]
    . rw [zAd h];have ih:=yah s0 i s r;unfold zrb at ih ⊢;by_cases h2:s'=s
      . subst h2;rw [zAd (fun q=>h q.symm)];simp
      . simp only [List.find?_cons,zAb h2];exact ih
theorem zw6:∀ {a:List (Spot×List Int)},(a.map (·.1)).Nodup->a=(a.map (·.1)).map fun s=>(s,zrb a s)
  |[],_=>rfl
  |(s,l) :: r,h=>by
    rw [gb,List.nodup_cons] at h;rw [gb,gb];have e1:zrb ((s,l) :: r) s=l:=by unfold zrb;simp
    rw [e1];congr 1;have ih:=zw6 h.2
    conv=>lhs;rw [ih]
    apply oe;intro x hx;have hne:s≠x:=fun q=>h.1 (by rw [q];exact hx);have:zrb ((s,l) :: r) x=zrb r x:=by unfold zrb;simp [hne]
    rw [this]
theorem z6p:∀ (l:List Rule) (i:Int) (a:List (Spot×List Int)),(a.map (·.1)).Nodup->coll l i a=(zes l (a.map (·.1))).map fun s=>(s,zrb a s++idxF (qs s) l i)
  |[],i,a,h=>by
    rw [coll,zes];simp only [idxF,fj];exact zw6 h
  |r :: l,i,a,h=>by
    rw [coll,zes]
    cases he:exB r with
    |false =>
      rw [zAd (by simp),zAd (by simp),z6p l (i+1) a h];apply oe;intro s _;rw [idxF,zAd (by unfold qs;rw [he];simp)]
    |true =>
      rw [zAc rfl];have hk:=zwh (za2 r) i a
      have hn:((addS (za2 r) i a).map (·.1)).Nodup:=by
        rw [hk];split
        . exact h
        . rename_i hn;rw [List.nodup_append];exact ⟨h,by simp,fun x hx y hy hxy=>hn (by simp at hy;rw [<- hy,<- hxy];exact hx)⟩
      rw [z6p l (i+1) _ hn,hk]
      have e:(if za2 r∈a.map (·.1) then a.map (·.1) else a.map (·.1)++[za2 r])=(if true=true/\za2 r ∉ a.map (·.1) then a.map (·.1)++[za2 r] else a.map (·.1)):=by
        by_cases q:za2 r∈a.map (·.1)
        . rw [zAc q,zAd (fun h=>h.2 q)]
        . rw [zAd q,zAc ⟨rfl,q⟩]
      rw [e];apply oe;intro s _;rw [yah,idxF];by_cases q:s=za2 r
      . rw [zAc q,zAc (by unfold qs;rw [he,zAa q.symm];rfl),fe];rfl
      . rw [zAd q,zAd (by unfold qs;rw [zAb (fun h=>q h.symm)];simp)]
def zsg (t:List Rule) (s:Spot):Bool:=t.any fun r=>!exB r && zob r.mat (spP s)
def zks (t:List Rule) (s:Spot):Option zgk:=if zsg t s=true then none else some ⟨s.port,s.tag,idxF (qs s) t 0⟩
def zow (t:List Rule):List zgk:=(zes t []).filterMap (zks t)
theorem znw:∀ (l:List Rule) (K:List Spot) (s:Spot),s∈zes l K↔s∈K\/∃ r,r∈l/\exB r=true/\za2 r=s
  |[],K,s=>by simp [zes]
  |r :: l,K,s=>by
    rw [zes,znw l];by_cases h:exB r=true/\za2 r ∉ K
    . rw [zAc h];constructor
      . rintro (q|⟨x,hx,q⟩)
        . rcases List.mem_append.1 q with q|q
          . exact .inl q
          . simp at q;exact .inr ⟨r,.head _,h.1,q.symm⟩
        . exact .inr ⟨x,.tail _ hx,q⟩
      . rintro (q|⟨x,hx,q⟩)
        . exact .inl (List.mem_append_left _ q)
        . rcases ib.1 hx with rfl|hx
          . exact .inl (List.mem_append_right _ (by simp [q.2]))
          . exact .inr ⟨x,hx,q⟩
    . rw [zAd h];constructor
      . rintro (q|⟨x,hx,q⟩)
        . exact .inl q
        . exact .inr ⟨x,.tail _ hx,q⟩
      . rintro (q|⟨x,hx,q⟩)
        . exact .inl q
        . rcases ib.1 hx with rfl|hx
          . refine .inl ?_;by_cases hm:za2 x∈K
            . rw [<- q.2];exact hm
            . exact absurd ⟨q.1,hm⟩ h
          . exact .inr ⟨x,hx,q⟩
theorem zva:∀ (l:List Rule) (r:Rule) (K:List Spot),zes (l++[r]) K=if exB r=true/\za2 r ∉ zes l K then zes l K++[za2 r] else zes l K
  |[],r,K=>rfl
  |x :: l,r,K=>by rw [fd,zes,zva l r,zes]
end Go.Proofs.YteifcnjpjjaikaaGreat
