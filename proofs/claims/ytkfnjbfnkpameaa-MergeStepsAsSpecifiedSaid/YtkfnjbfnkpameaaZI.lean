/- Part 9 of the proof of MergeStepsAsSpecified (several texts in one; no further condition). -/
import Derived.Test.YtkfnjbfnkpameaaZG
import Derived.Test.YtkfnjbfnkpameaaZH
import Derived.KernelRfl
import Derived.Test.YtkfnjbfnkpameaaZE
import Derived.Test.YtkfnjbfnkpameaaZF
import Derived.Test.YtkfnjbfnkpameaaRows
set_option linter.unusedSimpArgs false
set_option linter.unusedVariables false
set_option linter.unusedSectionVars false
namespace Go.Proofs.Ytkfnjbfnkpameaa
set_option maxHeartbeats 8000000
open _root_.And renaming intro->fd
open _root_.BitVec renaming ofInt->i8,toNat_and->oh,toNat_ofInt->ln
open _root_.Bool renaming and_eq_true->fj,and_self->gc,eq_iff_iff->ku,false_eq_true->qt,false_or->md,not_false->il,not_true->iv,toNat_false->qf,true_and->jy
open _root_.Classical renaming byContradiction->js
open Go.IntKind renaming i64->fi,u64->f5
open _root_.List renaming all_eq_true->ib,append_assoc->gj,append_nil->gt,cons_append->gq,drop_succ_cons->kv,drop_zero->gp,findSome?_cons->n8,flatten_cons->ii,flatten_nil->iy,getD_eq_getElem?_getD->fo,getElem?_cons_succ->lh,getElem?_cons_zero->gz,getElem?_eq_getElem->fk,getElem?_eq_none->jw,getElem_mem->ju,getElem_of_mem->mq,length_append->fx,length_cons->gh,length_filter_le->nj,length_map->fq,length_nil->je,length_singleton->ip,mem_append->io,mem_filter->oy,mem_map->jo,mem_range->k9,mem_singleton->gu,nil_append->gg,range->kg,range'_succ->qa,replicate->gb,set_cons_succ->lw,set_cons_zero->ld,take_of_length_le->ij
open _root_.Nat renaming add->pl,add_zero->jq,and_le_left->pk,beq_refl->ja,div->mw,div_le_self->rj,eq_of_beq_eq_true->fl,eq_of_testBit_eq->n4,land->o8,le_refl->fp,le_trans->jv,log2->ke,lt_of_le_of_lt->ou,lt_of_lt_of_le->gr,lt_trichotomy->nu,mod->py,mul->pi,or_lt_two_pow->px,pow_le_pow_right->lz,pow_lt_pow_right->o7,pow_succ->sn,reduceAdd->fw,reduceEqDiff->ft,reduceLT->iq,reduceLeDiff->jz,reduceMul->jg,reduceSub->iz,testBit_and->lq,testBit_lt_two_pow->mo,testBit_or->oe,xor_lt_two_pow->si,zero_add->i5,zero_le->ir,zero_testBit->oi
open _root_.Option renaming bind_some->ff
open _root_.Option.some renaming injEq->fe
open Go.Proofs.Ytkfnjbfnkpameaa.Pure renaming clr->i7
open Go.Proofs.Ytkfnjbfnkpameaa.Sh renaming sz->qs,szL->pp
open _root_.Sum renaming elim->ks
open Go.Proofs.Ytkfnjbfnkpameaa.T renaming cells->jd,int->fh,ren->qo,renL->oq,str->ph
open Go.Proofs.Ytkfnjbfnkpameaa.TW renaming block->gl,loopT->jj,seq->fg
open Go.Proofs.Ytkfnjbfnkpameaa.zal renaming call->gd
set_option maxRecDepth 1000000
open Go Go.RowKit
def zfr (k:Nat) (t:List Rule):List Merg->Option Bool
 |[]=>some true
 |m_ :: r_=>((zdx k t m_).bind fun ah=>(if ah.2=0 then some false else zfr k t  r_ ))
def zj4 (k:Nat) (t:List Rule):Option Bool:=(if zxc t then zfr k t  (zzn t)  else none)
theorem zfq (ax:Axs) (hx:NoAx ax) (k:Nat) (t:List Rule) (v:Bool) (H:zj4 k t=some v):Pure Try.prog (EE ax) [] 19 [zae t] (.bool v):=by
 rw [zj4] at H;refine en [.cell 2 4] 17 [0] (hx.no _ (by decide)) (fn19 ax) ?_;intro h hh;apply fg;refine rk [1,2] [] hh fun h hh=>?_;repeat apply fg
 refine rkp [1,2,7] [] [.fn 66 [] [.cp [zae t]]] hh ?_ ?_
 .exact ⟨gd ((zxd ax hx t).call _),trivial⟩
 clear hh h;intro h hh;apply gl;obtain ⟨g1,H⟩:=isg H;refine rm [1,2,7] t (fun L bs=>zfr k t  L  = some v/\bs=[.cells true 1 [zae t],.cells true 1 [.bool false]]) (fun h=>h 1=.ptr 0 0 1/\h 2=.ptr 1 0 1/\h 7=.fn 66 [] [.cp [zae t]]) hh g1 ⟨H,rfl⟩ ?_ ?_
 .clear hh h H;rintro hO hhO m_ r_ bs1 ⟨H,rfl⟩;rw [zfr] at H;refine gk [1,2,8] hhO ?_;intro h hh;refine rk [1,2,3] [] hh fun h hh=>?_;apply gl;obtain ⟨ah,e2,H⟩:=zab H;apply fg;refine rkp [1,2,5] [] [.tup [zae ah.1,.int .i64 ah.2]] hh ?_ ?_
  .exact ⟨gd ((zfx ax hx k t m_ ah e2 ).call _),trivial⟩
  clear hh h;intro h hh;apply fg;refine rk [1,2,16] [] hh fun h hh=>?_;rcases isp H with ⟨c3,H⟩|⟨c3,H⟩;rotate_left
  .skip;refine cf (f2 hh (zAb c3)) ?_;refine sk ?_;exact re hh ⟨H,rfl⟩
  refine ct (f2 hh (zAa c3)) ?_;apply fg;refine rk [2] [] hh fun h hh=>?_;cases H;refine xq ?_;clear hh h;revert hO;intro h hh;exact rqc hh
 clear hh h H;rintro h hh bs2 ⟨H,rfl⟩;rw [zfr] at H;apply fg;refine rk [2] [] hh fun h hh=>?_;cases H;exact rtc hh
def zft (k:Nat) (x:List Rule) (l:List Merg) (n:Nat) (kc:(List Rule)->(List Merg)->Nat->Option (List Rule×List Merg)):List Merg->Option (List Rule×List Merg)
 |[]=>(if l.length=n then some (x,l) else none)
 |m_ :: r_=>((zdx k x m_).bind fun ah=>(if ah.2=0 then (if (n+1)*25<=1000000000 then kc ah.1 (l++[m_]) (n+1) else none) else zft k x l n kc  r_ ))
def zeg (k:Nat)  : Nat->(List Rule)->(List Merg)->Nat->Option (List Rule×List Merg)
 |0,_,_,_=>none
 |m+1,x,l,n=>(if zxc x then zft k x l n (zeg k  m)  (zzn x)  else none)
def zfu (k:Nat) (t:List Rule):Option (List Rule×List Merg):=(if t.length*201<=1000000000 then (if t.length=t.length then zeg k  k t [] 0 else none) else none)
theorem zfs (ax:Axs) (hx:NoAx ax) (k:Nat) (t:List Rule) (v:List Rule×List Merg) (H:zfu k t=some v):Pure Try.prog (EE ax) [] 23 [zae t] (tupT [zae v.1,zof v.2]):=by
 rw [zfu] at H;refine enN [.tmp 2,.tmp 3] 28 [0] (hx.no _ (by decide)) (fn23 ax) ?_;intro h hh;apply fg;refine rk [1] [] hh fun h hh=>?_;apply TW.scope;apply fg;refine rk [1,4] [] hh fun h hh=>?_;refine vz 1 0 3 ?_;obtain ⟨g1,H⟩:=isg H;apply fg;refine rkc [1,4] [] [(.arr 3 23 0 t.length t.length (t.length*23),stL [.cells true 1 [zae t],.cells true 1 [.arr 2 3 0 0 0 0],.cells false 0 (vecC zib []),.cells false (t.length*23) (vecC zaj t)])] hh ?_ ?_
 .exact ⟨(by have q:=Call.fresh (zlf ax hx t g1) (by simp only [zbl,idsA,idsB,gc]) (by simp only [zbl,idsA,idsB,gc]) [.cells true 1 [zae t],.cells true 1 [.arr 2 3 0 0 0 0],.cells false 0 (vecC zib [])];exact q),trivial⟩
 clear hh h;intro h hh;obtain ⟨g2,H⟩:=isg H;apply fg;refine fz (e:=23) (len:=t.length) (M:=(t.length*23)) 0 3 0 (t.map zaj) (by rw [gp];exact zc5 (e:=23) (fun x=>zau x) g2) (fun t ht=>by obtain ⟨x,_,rfl⟩:=jo.1 ht;first|rfl|exact zf6 _|exact za1 _|exact zd0 _|exact zau _ | (rw [fq];rfl)) (by rw [fq]<;>exact g2) ?_;refine lk ?_;apply gl;refine jj [1,4] (fun m h bs=>∃ (x:List Rule) (l:List Merg) (n:Nat),zeg k  m x l n=some v/\(h 1=.ptr 0 0 1/\h 4=.ptr 1 0 1)/\bs=[.cells true 1 [zae x],.cells true 1 [.arr 2 3 0 n n (n*3)],.cells false (n*3) (vecC zib l),.gone]) ?_ k _ _ ?_;rotate_left
 .exact ⟨t,[],0,H,kq hh,rfl⟩
 clear hh h H;rintro m h bs ⟨x,l,n,H,hh,rfl⟩;rcases m with _|m
 .rw [zeg] at H;cases H
 rw [zeg] at H;apply gl;repeat apply fg
 refine rkp [1,4,11] [] [.fn 66 [] [.cp [zae x]]] hh ?_ ?_
 .exact ⟨gd ((zxd ax hx x).call _),trivial⟩
 clear hh h;intro h hh;apply gl;obtain ⟨g3,H⟩:=isg H;refine rm [1,4,11] x (fun L bs=>zft k x l n (zeg k  m)  L  = some v/\bs=[.cells true 1 [zae x],.cells true 1 [.arr 2 3 0 n n (n*3)],.cells false (n*3) (vecC zib l),.gone]) (fun h=>h 1=.ptr 0 0 1/\h 4=.ptr 1 0 1/\h 11=.fn 66 [] [.cp [zae x]]) hh g3 ⟨H,rfl⟩ ?_ ?_
 .clear hh h H;rintro hO hhO m_ r_ bs1 ⟨H,rfl⟩;rw [zft] at H;refine gk [1,4,12] hhO ?_;intro h hh;refine rk [1,4,5] [] hh fun h hh=>?_;apply gl;obtain ⟨ah,e4,H⟩:=zab H;apply fg;refine rkp [1,4,5,6,7] [] [.tup [zae ah.1,.int .i64 ah.2]] hh ?_ ?_
  .exact ⟨gd ((zfx ax hx k x m_ ah e4 ).call _),trivial⟩
  clear hh h;intro h hh;apply fg;refine rk [1,4,5,6,20] [] hh fun h hh=>?_;rcases isp H with ⟨c5,H⟩|⟨c5,H⟩;rotate_left
  .skip;refine cf (f2 hh (zAb c5)) ?_;refine sk ?_;exact re hh ⟨H,rfl⟩
  refine ct (f2 hh (zAa c5)) ?_;obtain ⟨g6,H⟩:=isg H;apply fg;refine rg [] [] [.cells true 1 [zae ah.1],.cells true 1 [.arr 2 3 0 (n+1) (n+1) ((n+1)*3)],.cells false ((n+1)*3) (vecC zib (l++[m_])),.gone,.cells true 3 [.int .i64 m_.kind,.int .i64 m_.i,.int .i64 m_.k]] (fun h=>h 1=.ptr 0 0 1/\h 4=.ptr 1 0 1) (f3 hh (el40 ax) (sr40 ax)) trivial fun h hh=>?_;refine xm ?_;clear hh h;revert hO;intro h hh;exact rd m hh ⟨ah.1,(l++[m_]),(n+1),H,kq hh,rfl⟩
 clear hh h H;rintro h hh bs2 ⟨H,rfl⟩;rw [zft] at H;apply fg;refine dk 2 [2,3] [] [] [] hh trivial trivial fun h hh=>?_;obtain ⟨g7,H⟩:=isg H;refine TW.freeze 3 (b:=2) (e:=3) (off:=0) (len:=n) (cap:=n) (M:=(n*3)) (l.map zib) (kq hh) (by rfl) (by omega) (by omega) (by rw [gp];exact zc5 (fun _=>rfl) g7) (fun t ht=>by obtain ⟨x,_,rfl⟩:=jo.1 ht;first|rfl|exact zf6 _|exact za1 _|exact zd0 _|exact zau _ | (rw [fq];rfl)) (by rw [fq]<;>exact g7) (by omega) ?_;rw [zec _ _ _ (by simp only [lzA]<;>omega)];simp only [scA];refine gk [2,3] hh fun h hh=>?_;cases H;exact rt hh
def zth (k:Nat)  : Option Bool:=((zh5 k [[49152,0,3],[49152,16384,3]]).bind fun au=>((zh5 k [[49152,0,3],[49152,16384,3],[32768,32768,3]]).bind fun dl=>((zh5 k [[49152,49152,3],[32768,32768,3]]).bind fun dm=>((zh5 k [[49152,0,3],[32768,0,(-1)],[49152,16384,3]]).bind fun dn=>((zh5 k [[49152,0,3],[49152,16384,(-1)],[32768,32768,3]]).bind fun dp=>((zfu k au).bind fun ak=>((zfu k dl).bind fun cd=>((zfu k dm).bind fun bf=>((zfu k dn).bind fun cg=>((zfu k dp).bind fun cj=>(((if (ak.1.length:Int)=1 then (if (ak.2.length:Int)=1 then (if (0:Int)<=0/\0<(ak.1.length:Int) then (if (((gx ak.1 0).mat).mask)=(mkAr 10 [32768]) then ((zj5 k au ak.1 ak.2).bind fun ay=>(if ay=0 then (if (cd.1.length:Int)=1 then (if (cd.2.length:Int)=2 then (if (0:Int)<=0/\0<(cd.1.length:Int) then some (decide (((gx cd.1 0).mat)=(⟨zA 10,zA 10⟩:Pat))) else none) else some false) else some false) else some false)) else some false) else none) else some false) else some false):Option Bool).bind fun s_=>(((if (bf.1.length:Int)=1 then (if (bf.2.length:Int)=1 then (if (0:Int)<=0/\0<(bf.2.length:Int) then (if (gx bf.2 0)=(⟨1,0,0⟩:Merg) then (if (cg.1.length:Int)=1 then (if (cg.2.length:Int)=2 then (if (cj.1.length:Int)=2 then some (decide ((cj.2.length:Int)=1)) else some false) else some false) else some false) else some false) else none) else some false) else some false):Option Bool).bind fun s_2=>((zg1 k au (⟨2,1,0⟩:Merg)).bind fun ab=>((zdx k au (⟨1,1,0⟩:Merg)).bind fun ah=>(if s_=true then (if s_2=true then (if ab.2=1 then (if ah.2=7 then ((zj4 k au).bind fun ck=>(if ck=true then some false else ((zj4 k ak.1).bind fun cy=>(if cy=true then ((zj5 k au au ak.2).bind fun bz=>some (decide (bz=7))) else some false)))) else some false) else some false) else some false) else some false)))))))))))))))
theorem z0x (ax:Axs) (hx:NoAx ax) (hs:ax 9=none) (k:Nat)  (v:Bool) (H:zth k  = some v):Pure Try.prog (EE ax) [] 9 [] (.bool v):=by
 rw [zth] at H;refine en [.tmp 0] 187 [] hs (fn9 ax) ?_;intro h hh;apply fg;refine rk [] [] hh fun h hh=>?_;obtain ⟨au,e1,H⟩:=zab H;apply fg;refine rkp [1] [] [zae au] (f2 hh (el63 ax)) ?_ ?_
 .exact ⟨gd ((zhh ax hx k [[49152,0,3],[49152,16384,3]] au e1 ).call _),trivial⟩
 clear hh h;intro h hh;obtain ⟨dl,e2,H⟩:=zab H;apply fg;refine rkp [1,2] [] [zae dl] (f2 hh (el63 ax)) ?_ ?_
 .exact ⟨gd ((zhh ax hx k [[49152,0,3],[49152,16384,3],[32768,32768,3]] dl e2 ).call _),trivial⟩
 clear hh h;intro h hh;obtain ⟨dm,e3,H⟩:=zab H;apply fg;refine rkp [1,2,3] [] [zae dm] (f2 hh (el63 ax)) ?_ ?_
 .exact ⟨gd ((zhh ax hx k [[49152,49152,3],[32768,32768,3]] dm e3 ).call _),trivial⟩
 clear hh h;intro h hh;obtain ⟨dn,e4,H⟩:=zab H;apply fg;refine rkp [1,2,3,4] [] [zae dn] (f2 hh (el63 ax)) ?_ ?_
 .exact ⟨gd ((zhh ax hx k [[49152,0,3],[32768,0,(-1)],[49152,16384,3]] dn e4 ).call _),trivial⟩
 clear hh h;intro h hh;obtain ⟨dp,e5,H⟩:=zab H;apply fg;refine rkp [1,2,3,4,5] [] [zae dp] (f2 hh (el63 ax)) ?_ ?_
 .exact ⟨gd ((zhh ax hx k [[49152,0,3],[49152,16384,(-1)],[32768,32768,3]] dp e5 ).call _),trivial⟩
 clear hh h;intro h hh;obtain ⟨ak,e6,H⟩:=zab H;apply fg;refine rkp [1,2,3,4,5,6,7] [] [.tup [zae ak.1,zof ak.2]] hh ?_ ?_
 .exact ⟨gd ((zfs ax hx k au ak e6 ).call _),trivial⟩
 clear hh h;intro h hh;obtain ⟨cd,e7,H⟩:=zab H;apply fg;refine rkp [1,3,4,5,6,7,8,9] [] [.tup [zae cd.1,zof cd.2]] hh ?_ ?_
 .exact ⟨gd ((zfs ax hx k dl cd e7 ).call _),trivial⟩
 clear hh h;intro h hh;obtain ⟨bf,e8,H⟩:=zab H;apply fg;refine rkp [1,4,5,6,7,8,9,10,11] [] [.tup [zae bf.1,zof bf.2]] hh ?_ ?_
 .exact ⟨gd ((zfs ax hx k dm bf e8 ).call _),trivial⟩
 clear hh h;intro h hh;obtain ⟨cg,e9,H⟩:=zab H;apply fg;refine rkp [1,5,6,7,8,9,10,11,12,13] [] [.tup [zae cg.1,zof cg.2]] hh ?_ ?_
 .exact ⟨gd ((zfs ax hx k dn cg e9 ).call _),trivial⟩
 clear hh h;intro h hh;obtain ⟨cj,e10,H⟩:=zab H;apply fg;refine rkp [1,6,7,8,9,10,11,12,13,14,15] [] [.tup [zae cj.1,zof cj.2]] hh ?_ ?_
 .exact ⟨gd ((zfs ax hx k dp cj e10 ).call _),trivial⟩
 clear hh h;intro h hh;obtain ⟨s_,H1,H⟩:=zab H;apply fg;refine cu [1,6,7,10,11,12,13,14,15,16] 0 (fun h bs=>(h 1=zae au/\h 6=zae ak.1/\h 7=zof ak.2/\h 10=zae bf.1/\h 11=zof bf.2/\h 12=zae cg.1/\h 13=zof cg.2/\h 14=zae cj.1/\h 15=zof cj.2/\h 16=.bool s_)/\bs=[]) ?_ ?_
 .skip;rcases isp H1 with ⟨c11,H1⟩|⟨c11,H1⟩;rotate_left
  .skip;refine rk [1,6,7,10,11,12,13,14,15,16] [] (f2 hh (zAb c11)) fun h hh=>?_;cases H1;exact ce hh ⟨kq hh,rfl⟩
  rcases isp H1 with ⟨c12,H1⟩|⟨c12,H1⟩;rotate_left
  .skip;refine rk [1,6,7,10,11,12,13,14,15,16] [] (f3 hh (zAa c11) (zAb c12)) fun h hh=>?_;cases H1;exact ce hh ⟨kq hh,rfl⟩
  obtain ⟨g13,H1⟩:=isg H1;rcases isp H1 with ⟨c14,H1⟩|⟨c14,H1⟩;rotate_left
  .skip;refine rk [1,6,7,10,11,12,13,14,15,16] [] (f3 hh (zAa c11) (f3 (zAa c12) (zAb c14) (f3 (zag g13) (ba43 ax) (f2 (bc43 ax) ((aq43 ax (((gx ak.1 0).mat).mask) (mkAr 10 [32768])).1))))) fun h hh=>?_;cases H1;exact ce hh ⟨kq hh,rfl⟩
  obtain ⟨ay,e15,H1⟩:=zab H1;rcases isp H1 with ⟨c16,H1⟩|⟨c16,H1⟩;rotate_left
  .skip;refine rkp [1,6,7,10,11,12,13,14,15,16] [] [.int .i64 ay] (f3 hh (zAa c11) (f3 (zAa c12) (zAa c14) (f3 (zAb c16) (zag g13) (f3 (ba43 ax) (bc43 ax) ((aq43 ax (((gx ak.1 0).mat).mask) (mkAr 10 [32768])).1))))) ?_ ?_
   .exact ⟨gd ((zfv ax hx k au ak.1 ak.2 ay e15 ).call _),trivial⟩
   clear hh h;intro h hh;cases H1;exact ce hh ⟨kq hh,rfl⟩
  rcases isp H1 with ⟨c17,H1⟩|⟨c17,H1⟩;rotate_left
  .skip;refine rkp [1,6,7,10,11,12,13,14,15,16] [] [.int .i64 ay] (f3 hh (zAa c11) (f3 (zAa c12) (zAa c14) (f3 (zAa c16) (zAb c17) (f3 (zag g13) (ba43 ax) (f2 (bc43 ax) ((aq43 ax (((gx ak.1 0).mat).mask) (mkAr 10 [32768])).1)))))) ?_ ?_
   .exact ⟨gd ((zfv ax hx k au ak.1 ak.2 ay e15 ).call _),trivial⟩
   clear hh h;intro h hh;cases H1;exact ce hh ⟨kq hh,rfl⟩
  rcases isp H1 with ⟨c18,H1⟩|⟨c18,H1⟩;rotate_left
  .skip;refine rkp [1,6,7,10,11,12,13,14,15,16] [] [.int .i64 ay] (f3 hh (zAa c11) (f3 (zAa c12) (zAa c14) (f3 (zAa c16) (zAa c17) (f3 (zAb c18) (zag g13) (f3 (ba43 ax) (bc43 ax) ((aq43 ax (((gx ak.1 0).mat).mask) (mkAr 10 [32768])).1)))))) ?_ ?_
   .exact ⟨gd ((zfv ax hx k au ak.1 ak.2 ay e15 ).call _),trivial⟩
   clear hh h;intro h hh;cases H1;exact ce hh ⟨kq hh,rfl⟩
  obtain ⟨g19,H1⟩:=isg H1;refine rkp [1,6,7,10,11,12,13,14,15,16] [] [.int .i64 ay] (f3 hh (zAa c11) (f3 (zAa c12) (zAa c14) (f3 (zAa c16) (zAa c17) (f3 (zAa c18) (zag g13) (f3 (ba43 ax) (bc43 ax) (f3 ((aq43 ax (((gx ak.1 0).mat).mask) (mkAr 10 [32768])).1) (zag g19) ((aq56 ax ((gx cd.1 0).mat) (⟨zA 10,zA 10⟩:Pat)).1))))))) ?_ ?_
  .exact ⟨gd ((zfv ax hx k au ak.1 ak.2 ay e15 ).call _),trivial⟩
  clear hh h;intro h hh;cases H1;exact ce hh ⟨kq hh,rfl⟩
 clear hh h;rintro h bs ⟨hh,rfl⟩;obtain ⟨s_2,H1,H⟩:=zab H;apply fg;refine cu [1,6,7,16,17] 0 (fun h bs=>(h 1=zae au/\h 6=zae ak.1/\h 7=zof ak.2/\h 16=.bool s_/\h 17=.bool s_2)/\bs=[]) ?_ ?_
 .skip;rcases isp H1 with ⟨c20,H1⟩|⟨c20,H1⟩;rotate_left
  .skip;refine rk [1,6,7,16,17] [] (f2 hh (zAb c20)) fun h hh=>?_;cases H1;exact ce hh ⟨kq hh,rfl⟩
  rcases isp H1 with ⟨c21,H1⟩|⟨c21,H1⟩;rotate_left
  .skip;refine rk [1,6,7,16,17] [] (f3 hh (zAa c20) (zAb c21)) fun h hh=>?_;cases H1;exact ce hh ⟨kq hh,rfl⟩
  obtain ⟨g22,H1⟩:=isg H1;rcases isp H1 with ⟨c23,H1⟩|⟨c23,H1⟩;rotate_left
  .skip;refine rk [1,6,7,16,17] [] (f3 hh (zAa c20) (f3 (zAa c21) (zAb c23) (f2 (zag g22) ((aq30 ax (gx bf.2 0) (⟨1,0,0⟩:Merg)).1)))) fun h hh=>?_;cases H1;exact ce hh ⟨kq hh,rfl⟩
  rcases isp H1 with ⟨c24,H1⟩|⟨c24,H1⟩;rotate_left
  .skip;refine rk [1,6,7,16,17] [] (f3 hh (zAa c20) (f3 (zAa c21) (zAa c23) (f3 (zAb c24) (zag g22) ((aq30 ax (gx bf.2 0) (⟨1,0,0⟩:Merg)).1)))) fun h hh=>?_;cases H1;exact ce hh ⟨kq hh,rfl⟩
  rcases isp H1 with ⟨c25,H1⟩|⟨c25,H1⟩;rotate_left
  .skip;refine rk [1,6,7,16,17] [] (f3 hh (zAa c20) (f3 (zAa c21) (zAa c23) (f3 (zAa c24) (zAb c25) (f2 (zag g22) ((aq30 ax (gx bf.2 0) (⟨1,0,0⟩:Merg)).1))))) fun h hh=>?_;cases H1;exact ce hh ⟨kq hh,rfl⟩
  rcases isp H1 with ⟨c26,H1⟩|⟨c26,H1⟩;rotate_left
  .skip;refine rk [1,6,7,16,17] [] (f3 hh (zAa c20) (f3 (zAa c21) (zAa c23) (f3 (zAa c24) (zAa c25) (f3 (zAb c26) (zag g22) ((aq30 ax (gx bf.2 0) (⟨1,0,0⟩:Merg)).1))))) fun h hh=>?_;cases H1;exact ce hh ⟨kq hh,rfl⟩
  refine rk [1,6,7,16,17] [] (f3 hh (zAa c20) (f3 (zAa c21) (zAa c23) (f3 (zAa c24) (zAa c25) (f3 (zAa c26) (zag g22) ((aq30 ax (gx bf.2 0) (⟨1,0,0⟩:Merg)).1))))) fun h hh=>?_;cases H1;exact ce hh ⟨kq hh,rfl⟩
 clear hh h;rintro h bs ⟨hh,rfl⟩;obtain ⟨ab,e27,H⟩:=zab H;apply fg;refine rkp [1,6,7,16,17,19] [] [.tup [zae ab.1,.int .i64 ab.2]] hh ?_ ?_
 .exact ⟨gd ((zkh ax hx k au (⟨2,1,0⟩:Merg) ab e27 ).call _),trivial⟩
 clear hh h;intro h hh;obtain ⟨ah,e28,H⟩:=zab H;apply fg;refine rkp [1,6,7,16,17,19,21] [] [.tup [zae ah.1,.int .i64 ah.2]] hh ?_ ?_
 .exact ⟨gd ((zfx ax hx k au (⟨1,1,0⟩:Merg) ah e28 ).call _),trivial⟩
 clear hh h;intro h hh;rcases isb H with ⟨c29,H⟩|⟨c29,H⟩;rotate_left
 .skip;apply fg;refine rk [0] [] (f2 hh c29) fun h hh=>?_;cases H;exact rt hh
 rcases isb H with ⟨c30,H⟩|⟨c30,H⟩;rotate_left
 .skip;apply fg;refine rk [0] [] (f3 hh c29 c30) fun h hh=>?_;cases H;exact rt hh
 rcases isp H with ⟨c31,H⟩|⟨c31,H⟩;rotate_left
 .skip;apply fg;refine rk [0] [] (f3 hh c29 (f2 c30 (zAb c31))) fun h hh=>?_;cases H;exact rt hh
 rcases isp H with ⟨c32,H⟩|⟨c32,H⟩;rotate_left
 .skip;apply fg;refine rk [0] [] (f3 hh c29 (f3 c30 (zAa c31) (zAb c32))) fun h hh=>?_;cases H;exact rt hh
 obtain ⟨ck,e33,H⟩:=zab H;rcases isb H with ⟨c34,H⟩|⟨c34,H⟩;rotate_left
 .skip;obtain ⟨cy,e35,H⟩:=zab H;rcases isb H with ⟨c36,H⟩|⟨c36,H⟩;rotate_left
  .skip;apply fg;refine rkp [0] [] [.bool ck,.bool cy] (f3 hh c29 (f3 c30 (zAa c31) (f3 (zAa c32) c34 c36))) ?_ ?_
   .exact ⟨gd (i7 (zfq ax hx k au ck e33 ) (by first|rfl|simp only [c29,c30,c34,c36])),gd (i7 (zfq ax hx k ak.1 cy e35 ) (by first|rfl|simp only [c29,c30,c34,c36])),trivial⟩
   clear hh h;intro h hh;cases H;exact rt hh
  obtain ⟨bz,e37,H⟩:=zab H;apply fg;refine rkp [0] [] [.bool ck,.bool cy,.int .i64 bz] (f3 hh c29 (f3 c30 (zAa c31) (f3 (zAa c32) c34 c36))) ?_ ?_
  .exact ⟨gd (i7 (zfq ax hx k au ck e33 ) (by first|rfl|simp only [c29,c30,c34,c36])),gd (i7 (zfq ax hx k ak.1 cy e35 ) (by first|rfl|simp only [c29,c30,c34,c36])),gd (i7 (zfv ax hx k au au ak.2 bz e37 ) (by first|rfl|simp only [c29,c30,c34,c36])),trivial⟩
  clear hh h;intro h hh;cases H;exact rt hh
 apply fg;refine rkp [0] [] [.bool ck] (f3 hh c29 (f3 c30 (zAa c31) (f2 (zAa c32) c34))) ?_ ?_
 .exact ⟨gd (i7 (zfq ax hx k au ck e33 ) (by first|rfl|simp only [c29,c30,c34])),trivial⟩
 clear hh h;intro h hh;cases H;exact rt hh
theorem zvs:zth 200=some true:=by kernel_rfl
theorem zw1 {ax:Axs} (hax:zqp Try.prog GG LL ax) {f:FuncId} {fn:Func} {body:Code} (hfn:(EE ax).fn.at f=some fn) (hb:fn.body=some body) {args:List T} {vs:Array Value} {W:World} (h:RtL W args vs.toList) (hp:Pure Try.prog (EE ax) [] f args (.bool true)) :
    Calls Try.prog f vs W fun e W'=>e=.returned (.bool true)/\Below W.heap.size W W':=by
  obtain ⟨A,xs,k⟩:=entL (N:=W.heap.size) (G:=GG) (K:=[]) rfl (fun p hp=>by simp at hp) (fun g hg=>by simp [has,GG] at hg) h [];have e:([]:List Seg)++A++[]=A:=by simp
  have kr:=k.vr [];have kl:=k.vl [];have ka:=k.at_ [];rw [e] at kr kl ka;obtain ⟨r1,r2,r3,r4⟩:=ybb (G:=GG) (N:=W.heap.size) (K:=[]) (A:=A) rfl (fun p hp=>by simp at hp) (fun p hp=>by simp at hp) (fun g hg=>by simp [has,GG] at hg) ka
  have hT:TRel [] (Low W.heap.size) bx0 ts0 (St (W.heap.size+A.length) (famS W.heap.size [] A) 0 [] []) :=
    ⟨⟨_,rfl⟩,r2,fun f hf=>by have:f<W.heap.size:=hf;show f<W.heap.size+A.length;omega,fun f hf=>absurd hf zlw,fun b b' l l' f hb=>by simp [bx0] at hb,fun b _=>rfl,fun b z N l hb=>by simp [ts0] at hb,fun b l hb=>by simp [ts0] at hb,fun x hx=>by simp at hx⟩
  obtain ⟨v,s2,A',β',e1,e2,e3,e4⟩:=hp.2.2 _ _ _ xs hT kl;cases e3;refine (yhc ygn z7t hax hfn hb (args':=vs) e1 kr r1 r4 r2 r3).mono ?_;rintro e w' ⟨σ',v',rfl,k1,k2⟩;exact ⟨by rw [z6s 3 rfl k1],k2⟩
theorem z9a (w:World):Calls Try.prog 9 #[] w fun e w'=>e=.returned (.bool true)/\Below w.heap.size w w' :=
  zw1 (zqp.none yi0) (fn9 _) rfl .nil (z0x (fun _=>none) ⟨fun _ _=>rfl⟩ rfl 200 true zvs)
noncomputable def axS:Axs:=ye9 9 (z3i (.bool true)) fun _=>none
theorem yoo:zqp Try.prog GG LL axS:=(zqp.none yi0).add (yon (L:=LL) (ax:=fun _=>none) z7t (fn9 fun _=>none) rfl rfl z9a)
theorem ymp:axS 9=some (z3i (.bool true)):=yab _ _ _
theorem ye8:ymv axS:=by
  refine ⟨fun f hf=>yhl _ _ fun h=>?_,rfl,rfl,fun A β s vargs hT hv=>?_⟩
  . subst h;rw [ja] at hf;cases hf
  . cases hv;exact ⟨.bool true,s,A,β,yhf (k:=z3i (.bool true)) ymp rfl,hT,.bool true,Stp.refl⟩
theorem ydf {f:FuncId} {fn:Func} {body:Code} (hfn:(EE axS).fn.at f=some fn) (hb:fn.body=some body) {args:List T} {vs:Array Value} {W:World} (h:RtL W args vs.toList) (hp:Pure Try.prog (EE axS) [] f args (.bool true)) :
    Calls Try.prog f vs W fun e W'=>e=.returned (.bool true)/\Below W.heap.size W W':=zw1 yoo hfn hb h hp
abbrev big:Nat:=9223372036854775808
theorem za4 (i:Nat) (h:i<9223372036854775807):fi.wrap ((i:Int)+1)=((i+1:Nat):Int):=by
  rw [wr64 (by omega)];push_cast;rfl
theorem ziu {α:Type} [Inhabited α] (l:List α) (i:Nat):gx l (i:Int)=l.getD i default:=rfl
theorem zd8 {α:Type} [Inhabited α] {l:List α} {i:Nat} (h:i<l.length):gx l (i:Int)=l[i]:=by
  rw [ziu,fo,fk h];rfl
section
variable {α β σ:Type}
def sumO (o:Option β):β ⊕ Unit:=match o with|some b=>.inl b|none=>.inr ()
theorem zq0 {L : Nat -> Int -> Option (β ⊕ Unit)} (n : Nat) (c : Nat -> Option β) (hn : n < big) (hs : ∀ m (j : Nat), j < n -> L (m + 1) (j : Int) = match c j with | some b => some (.inl b) | none => L m (fi.wrap ((j : Int) + 1)))
    (he:∀ m,L (m+1) (n:Int)=some (.inr ())) {k:Nat} (hk:n<k):L k 0=some (sumO ((kg n).findSome? c)):=by
  have key:∀ m j,j<=n->n - j<m->L m (j:Int)=some (sumO ((List.range' j (n - j)).findSome? c)):=by
    intro m
    induction m with
    |zero=>intro j h1 h2;omega
    |succ m ih =>
      intro j h1 h2;by_cases hj:j<n
      . rw [hs m j hj,show n - j=(n - (j+1))+1 by omega,qa,n8]
        cases hc:c j with
        |some b=>rfl
        |none =>
          simp only;rw [za4 j (by simp only [big] at hn;omega)];exact ih (j+1) (by omega) (by omega)
      . obtain rfl:j=n:=by omega
        rw [he,Nat.sub_self];rfl
  have:=key k 0 (ir _) (by omega);rw [List.range_eq_range'];exact this
theorem zry {c:Nat->Option β} {d:α->Option β}:∀ (l:List α) (s:Nat),(∀ j (h:j<l.length),c (s+j)=d l[j])->(List.range' s l.length).findSome? c=l.findSome? d
  |[],s,_=>rfl
  |x :: l,s,h=>by
    rw [gh,qa,n8,n8];have h0:=h 0 (by simp);rw [jq] at h0;rw [h0];simp only [List.getElem_cons_zero];rw [zry l (s+1) fun j hj=>by have:=h (j+1) (by simpa using hj);rw [show s+(j+1)=s+1+j by omega] at this;simpa using this]
theorem ydc {L : Nat -> Int -> Option (β ⊕ Unit)} (l : List α) (c : α -> Option β) (hn : l.length < big) (hs : ∀ m (j : Nat) (h : j < l.length), L (m + 1) (j : Int) = match c l[j] with | some b => some (.inl b) | none => L m (fi.wrap ((j : Int) + 1)))
    (he:∀ m,L (m+1) (l.length:Int)=some (.inr ())) {k:Nat} (hk:l.length<k):L k 0=some (sumO (l.findSome? c)):=by
  rw [zq0 l.length (fun j=>if h:j<l.length then c l[j] else none) hn (fun m j h=>by rw [hs m j h,dif_pos h]) he hk,List.range_eq_range'];rw [zry l 0 fun j h=>by rw [i5,dif_pos h]]
theorem znh {c:α->Option β} {b:β} {q:α->Bool}:∀ (l:List α),(∀ x,x∈l->c x=if q x=true then none else some b)->l.findSome? c=if l.all q=true then none else some b
  |[],_=>rfl
  |x :: l,h=>by
    rw [n8,h x (.head _),List.all_cons]
    cases hq:q x with
    |true=>simp only [if_true,jy];exact znh l fun y hy=>h y (.tail _ hy)
    |false=>rfl
theorem zpx {L:Nat->Int->Option (β ⊕ Unit)} (l:List α) (b:β) (q:α->Bool) (hn:l.length<big) (hs:∀ m (j:Nat) (h:j<l.length),L (m+1) (j:Int)=if q l[j]=true then L m (fi.wrap ((j:Int)+1)) else some (.inl b))
    (he:∀ m,L (m+1) (l.length:Int)=some (.inr ())) {k:Nat} (hk:l.length<k):L k 0=some (if l.all q=true then .inr () else .inl b):=by
  rw [ydc l (fun x=>if q x=true then none else some b) hn (fun m j h=>by rw [hs m j h];cases q l[j]<;>rfl) he hk,znh l fun _ _=>rfl];cases l.all q<;>rfl
theorem zir {L:Nat->Int->Option (β ⊕ Unit)} (n:Nat) (b:β) (q:Nat->Bool) (hn:n<big) (hs:∀ m (j:Nat),j<n->L (m+1) (j:Int)=if q j=true then L m (fi.wrap ((j:Int)+1)) else some (.inl b))
    (he:∀ m,L (m+1) (n:Int)=some (.inr ())) {k:Nat} (hk:n<k):L k 0=some (if (kg n).all q=true then .inr () else .inl b):=by
  rw [zq0 n (fun x=>if q x=true then none else some b) hn (fun m j h=>by rw [hs m j h];cases q j<;>rfl) he hk,znh _ fun _ _=>rfl];cases (kg n).all q<;>rfl
theorem zvd {l:List α} {q:α->Bool}:l.all q=true↔∀ j (h:j<l.length),q l[j]=true:=by
  rw [ib];exact ⟨fun h j hj=>h _ (ju hj),fun h x hx=>by obtain ⟨j,hj,rfl⟩:=mq hx;exact h j hj⟩
def idxB (q:α->Bool) (l:List α):Int:=match l.findIdx? q with|some i=>(i:Int)|none=>-1
end
/-! words -/
theorem zsr {a b:Nat} (ha:a<9223372036854775808) (hb:b<9223372036854775808):iAnd .i64 (a:Int) (b:Int)=((a &&& b:Nat):Int):=by
  have h:a &&& b<=a:=pk;show fi.wrap ((i8 64 (a:Int) &&& i8 64 (b:Int)).toNat:Int)=_;rw [oh,ln,ln];rw [show ((a:Int) % ((2 ^ 64:Nat):Int)).toNat=a by omega,show ((b:Int) % ((2 ^ 64:Nat):Int)).toNat=b by omega];exact wr64 (by omega)
theorem z7q {a b:Nat} (ha:a<9223372036854775808) (hb:b<9223372036854775808):iXor .i64 (a:Int) (b:Int)=((a ^^^ b:Nat):Int):=by
  have h:a ^^^ b<2 ^ 63:=si (by omega) (by omega);show fi.wrap ((i8 64 (a:Int) ^^^ i8 64 (b:Int)).toNat:Int)=_;rw [BitVec.toNat_xor,ln,ln];rw [show ((a:Int) % ((2 ^ 64:Nat):Int)).toNat=a by omega,show ((b:Int) % ((2 ^ 64:Nat):Int)).toNat=b by omega];exact wr64 (by omega)
theorem z4y {a b:Nat} (ha:a<9223372036854775808) (hb:b<9223372036854775808):iOr .i64 (a:Int) (b:Int)=((a ||| b:Nat):Int):=by
  have h:a ||| b<2 ^ 63:=px (by omega) (by omega)
  show fi.wrap ((i8 64 (a:Int) ||| i8 64 (b:Int)).toNat:Int)=_;rw [BitVec.toNat_or,ln,ln];rw [show ((a:Int) % ((2 ^ 64:Nat):Int)).toNat=a by omega,show ((b:Int) % ((2 ^ 64:Nat):Int)).toNat=b by omega];exact wr64 (by omega)
theorem zuq {a b:Nat} (ha:a<9223372036854775808) (hb:b<9223372036854775808):zhr .i64 (a:Int) (b:Int)=((a - (a &&& b):Nat):Int):=zyf ha hb
theorem own:ownKnob Try.prog.godebug=none:=by kernel_rfl
theorem z4t:laidOutB Try.prog=true:=by kernel_rfl
def inI (x:Int):Prop:=-9223372036854775808<=x/\x<=9223372036854775807
theorem yhx {x:Int} (h:(Lit.int .i64 x).wf=true):inI x:=by
  simp only [Lit.wf,decide_eq_true_eq,IntKind.wrap,IntKind.bits,IntKind.signed] at h;simp at h;have e1:fi.min=-9223372036854775808:=by decide
  have e2:fi.max=9223372036854775807:=by decide
  unfold inI;omega
theorem cf_i {t:T} (h:conf (.int .i64) t):∃ n,t=.int .i64 n/\inI n:=by
  obtain ⟨n,rfl,hw⟩:=h;exact ⟨n,rfl,yhx hw⟩
theorem ymf {t:T} (h:conf .bool t):∃ b,t=.bool b/\True:=by
  obtain ⟨b,rfl⟩:=h;exact ⟨b,rfl,trivial⟩
theorem ykl {t:T} (h:conf .str t):∃ s,t=.str s/\s.size<big:=by
  obtain ⟨s,rfl,hs⟩:=h;have hm:maxLen<big:=by decide
  exact ⟨s,rfl,by omega⟩
theorem ykm {n:Nat} {t:T} (h:conf (.arr .i64 n) t):∃ a:Ar n,t=.agg (a.l.map (fh .i64))/\∀ y,y∈a.l->inI y:=by
  obtain ⟨a,rfl,hw⟩:=h;exact ⟨a,rfl,fun y hy=>yhx (hw y hy)⟩
theorem zn9 {α:Type} {f:α->T} {sh:Sh} {p:α->Prop} (hf:∀ t,conf sh t->∃ x,t=f x/\p x) {t:T} (h:conf (.slice sh) t):∃ l:List α,t=.lst sh.sz (l.map f)/\(l.length<big/\∀ x,x∈l->p x):=by
  obtain ⟨l,rfl,hl,hall⟩:=h;have hm:maxLen<big:=by decide
  have key:∀ l:List T,(∀ x,x∈l->conf sh x)->∃ m:List α,l=m.map f/\∀ x,x∈m->p x:=by
    intro l
    induction l with
    |nil=>intro _;exact ⟨[],rfl,fun x hx=>by simp at hx⟩
    |cons t l ih =>
      intro hc;obtain ⟨x,rfl,hp⟩:=hf t (hc t (by simp));obtain ⟨m,rfl,hm⟩:=ih fun y hy=>hc y (by simp [hy]);refine ⟨x :: m,rfl,fun y hy=>?_⟩;rcases List.mem_cons.1 hy with rfl|hy
      . exact hp
      . exact hm y hy
  obtain ⟨m,rfl,hp⟩:=key l hall;rw [fq] at hl;exact ⟨m,rfl,by omega,hp⟩
def z50:Sh:=.struct [(.int .i64),(.int .i64),(.int .i64)]
def yhz (x:Merg):Prop:=inI x.kind/\inI x.i/\inI x.k
theorem ymi {t:T} (h:conf z50 t):∃ x:Merg,t=zib x/\yhz x:=by
  obtain ⟨cs,rfl,x0,r0,rfl,h0,x1,r1,rfl,h1,x2,r2,rfl,h2,rfl⟩:=h;obtain ⟨a0,rfl,q0⟩:=cf_i h0;obtain ⟨a1,rfl,q1⟩:=cf_i h1;obtain ⟨a2,rfl,q2⟩:=cf_i h2;exact ⟨⟨a0,a1,a2⟩,by first | (simp only [zib,jd,qs,pp,z50,gt,gq,gg,gj,jq,fw];done) | (simp only [zib,jd,qs,pp,z50,gt,gq,gg,gj,jq,fw];rfl),q0,q1,q2⟩
def zy6:Sh:=.struct [(.arr .i64 10),(.arr .i64 10)]
def yk1 (x:Pat):Prop:=(∀ y,y∈x.mask.l->inI y)/\(∀ y,y∈x.bits.l->inI y)
theorem ykn {t:T} (h:conf zy6 t):∃ x:Pat,t=ePat x/\yk1 x:=by
  obtain ⟨cs,rfl,x0,r0,rfl,h0,x1,r1,rfl,h1,rfl⟩:=h;obtain ⟨a0,rfl,q0⟩:=ykm h0;obtain ⟨a1,rfl,q1⟩:=ykm h1;exact ⟨⟨a0,a1⟩,by first | (simp only [ePat,jd,qs,pp,zy6,gt,gq,gg,gj,jq,fw];done) | (simp only [ePat,jd,qs,pp,zy6,gt,gq,gg,gj,jq,fw];rfl),q0,q1⟩
def z89:Sh:=.struct [(.int .i64),zy6]
def ym4 (x:Alt):Prop:=inI x.link/\yk1 x.mod
theorem yoj {t:T} (h:conf z89 t):∃ x:Alt,t=eAlt x/\ym4 x:=by
  obtain ⟨cs,rfl,x0,r0,rfl,h0,x1,r1,rfl,h1,rfl⟩:=h;obtain ⟨a0,rfl,q0⟩:=cf_i h0;obtain ⟨a1,rfl,q1⟩:=ykn h1;exact ⟨⟨a0,a1⟩,by first | (simp only [eAlt,ePat,jd,qs,pp,z89,zy6,gt,gq,gg,gj,jq,fw];done) | (simp only [eAlt,ePat,jd,qs,pp,z89,zy6,gt,gq,gg,gj,jq,fw];rfl),q0,q1⟩
def z5z:Sh:=.struct [(.int .i64),zy6,(.int .i64),(.slice (.slice z89))]
def z5p (x:Rule):Prop:=inI x.prio/\yk1 x.mat/\inI x.step/\(x.outs.length<big/\∀ y,y∈x.outs->(y.length<big/\∀ y',y'∈y->ym4 y'))
theorem ymg {t:T} (h:conf z5z t):∃ x:Rule,t=zaj x/\z5p x:=by
  obtain ⟨cs,rfl,x0,r0,rfl,h0,x1,r1,rfl,h1,x2,r2,rfl,h2,x3,r3,rfl,h3,rfl⟩:=h;obtain ⟨a0,rfl,q0⟩:=cf_i h0;obtain ⟨a1,rfl,q1⟩:=ykn h1;obtain ⟨a2,rfl,q2⟩:=cf_i h2;obtain ⟨a3,rfl,q3⟩:=zn9 (fun _ hh=>zn9 (fun _ hh=>yoj hh) hh) h3;exact ⟨⟨a0,a1,a2,a3⟩,by first | (simp only [zaj,ePat,za3,lAlt,eAlt,jd,qs,pp,z5z,zy6,z89,gt,gq,gg,gj,jq,fw];done) | (simp only [zaj,ePat,za3,lAlt,eAlt,jd,qs,pp,z5z,zy6,z89,gt,gq,gg,gj,jq,fw];rfl),q0,q1,q2,q3⟩
def zwo:Sh:=.struct [.str,.bool,(.int .i64),(.int .i64)]
def yhy (x:Node):Prop:=x.name.size<big/\True/\inI x.rules/\inI x.entries
theorem ymh {t:T} (h:conf zwo t):∃ x:Node,t=zqe x/\yhy x:=by
  obtain ⟨cs,rfl,x0,r0,rfl,h0,x1,r1,rfl,h1,x2,r2,rfl,h2,x3,r3,rfl,h3,rfl⟩:=h;obtain ⟨a0,rfl,q0⟩:=ykl h0;obtain ⟨a1,rfl,q1⟩:=ymf h1;obtain ⟨a2,rfl,q2⟩:=cf_i h2;obtain ⟨a3,rfl,q3⟩:=cf_i h3;exact ⟨⟨a0,a1,a2,a3⟩,by first | (simp only [zqe,jd,qs,pp,zwo,gt,gq,gg,gj,jq,fw];done) | (simp only [zqe,jd,qs,pp,zwo,gt,gq,gg,gj,jq,fw];rfl),q0,q1,q2,q3⟩
def zwp:Sh:=.struct [(.int .i64),(.int .i64),(.int .i64)]
def yh0 (x:Link):Prop:=inI x.frm/\inI x.to/\inI x.cap
theorem ymj {t:T} (h:conf zwp t):∃ x:Link,t=zqf x/\yh0 x:=by
  obtain ⟨cs,rfl,x0,r0,rfl,h0,x1,r1,rfl,h1,x2,r2,rfl,h2,rfl⟩:=h;obtain ⟨a0,rfl,q0⟩:=cf_i h0;obtain ⟨a1,rfl,q1⟩:=cf_i h1;obtain ⟨a2,rfl,q2⟩:=cf_i h2;exact ⟨⟨a0,a1,a2⟩,by first | (simp only [zqf,jd,qs,pp,zwp,gt,gq,gg,gj,jq,fw];done) | (simp only [zqf,jd,qs,pp,zwp,gt,gq,gg,gj,jq,fw];rfl),q0,q1,q2⟩
def zwq:Sh:=.struct [.str,(.int .i64)]
def yh1 (x:Edge):Prop:=x.name.size<big/\inI x.node
theorem ymk {t:T} (h:conf zwq t):∃ x:Edge,t=zqg x/\yh1 x:=by
  obtain ⟨cs,rfl,x0,r0,rfl,h0,x1,r1,rfl,h1,rfl⟩:=h;obtain ⟨a0,rfl,q0⟩:=ykl h0;obtain ⟨a1,rfl,q1⟩:=cf_i h1;exact ⟨⟨a0,a1⟩,by first | (simp only [zqg,jd,qs,pp,zwq,gt,gq,gg,gj,jq,fw];done) | (simp only [zqg,jd,qs,pp,zwq,gt,gq,gg,gj,jq,fw];rfl),q0,q1⟩
def yfw:Sh:=.struct [(.slice zwo),(.slice zwp),(.slice zwq)]
def yk2 (x:Net):Prop:=(x.nodes.length<big/\∀ y,y∈x.nodes->yhy y)/\(x.links.length<big/\∀ y,y∈x.links->yh0 y)/\(x.edges.length<big/\∀ y,y∈x.edges->yh1 y)
theorem yoi {t:T} (h:conf yfw t):∃ x:Net,t=eNet x/\yk2 x:=by
  obtain ⟨cs,rfl,x0,r0,rfl,h0,x1,r1,rfl,h1,x2,r2,rfl,h2,rfl⟩:=h;obtain ⟨a0,rfl,q0⟩:=zn9 (fun _ hh=>ymh hh) h0;obtain ⟨a1,rfl,q1⟩:=zn9 (fun _ hh=>ymj hh) h1;obtain ⟨a2,rfl,q2⟩:=zn9 (fun _ hh=>ymk hh) h2;exact ⟨⟨a0,a1,a2⟩,by first | (simp only [eNet,zgd,zqe,zge,zqf,zgf,zqg,jd,qs,pp,yfw,zwo,zwp,zwq,gt,gq,gg,gj,jq,fw];done) | (simp only [eNet,zgd,zqe,zge,zqf,zgf,zqg,jd,qs,pp,yfw,zwo,zwp,zwq,gt,gq,gg,gj,jq,fw];rfl),q0,q1,q2⟩
def zey (k:Nat) (n:Net):Nat->Int->(List ByteArray)->Nat->Option (List ByteArray×Nat)
 |0,_,_,_=>none
 |m+1,i,l,n2=>(if i<(n.nodes.length:Int) then (if 0<=i/\i<(n.nodes.length:Int) then (if (n2+1)*17<=1000000000 then zey k n m (fi.wrap (i+1)) (l++[(gx n.nodes i).name]) (n2+1) else none) else none) else some (l,n2))
def zex (k:Nat) (n:Net):Nat->Int->(List ByteArray)->Nat->Option (List ByteArray×Nat)
 |0,_,_,_=>none
 |m+1,i2,l2,n3=>(if i2<(n.edges.length:Int) then (if 0<=i2/\i2<(n.edges.length:Int) then (if (n3+1)*17<=1000000000 then zex k n m (fi.wrap (i2+1)) (l2++[(gx n.edges i2).name]) (n3+1) else none) else none) else some (l2,n3))
def zk6 (k:Nat) (n:Net):Option (List ByteArray×List ByteArray):=((zey k n k 0 [] 0:Option (List ByteArray×Nat)).bind fun s_=>((zex k n k 0 [] 0:Option (List ByteArray×Nat)).bind fun s_2=>(if s_.1.length=s_.2 then (if s_2.1.length=s_2.2 then some (s_.1,s_2.1) else none) else none)))
theorem zy2 (ax:Axs) (hx:NoAx ax) (k:Nat) (n:Net) (v:List ByteArray×List ByteArray) (H:zk6 k n=some v):Pure Try.prog (EE ax) [] 50 [eNet n] (tupT [strs v.1,strs v.2]):=by
 rw [zk6] at H;refine enN [.tmp 2,.tmp 3] 42 [0] (hx.no _ (by decide)) (fn50 ax) ?_;intro h hh;apply fg;refine rk [1] [] hh fun h hh=>?_;apply fg;refine rk [1,4] [] hh fun h hh=>?_;refine vk 4 1 [1,4] hh fun h hh=>?_;apply fg;refine rk [1,4,5] [] hh fun h hh=>?_;refine vk 5 1 [1,4,5] hh fun h hh=>?_;repeat apply fg
 refine rk [1,4,5,6] [] hh fun h hh=>?_;obtain ⟨s_,H1,H⟩:=zab H;refine cu [1,4,5] 3 (fun h bs=>(h 1=.ptr 0 0 3/\h 4=.arr 1 1 0 s_.2 s_.2 s_.2/\h 5=.arr 2 1 0 0 0 0)/\bs=[.cells true 3 [zgd n.nodes,zge n.links,zgf n.edges],.cells false s_.2 (s_.1.map ph),.cells false 0 ([].map ph)]) ?_ ?_
 .skip;apply gl;refine jj [1,4,5,6] (fun m h bs=>∃ (i:Int) (l:List ByteArray) (n2:Nat),zey k n m i l n2=some s_/\(h 1=.ptr 0 0 3/\h 4=.arr 1 1 0 n2 n2 n2/\h 5=.arr 2 1 0 0 0 0/\h 6=.int .i64 i)/\bs=[.cells true 3 [zgd n.nodes,zge n.links,zgf n.edges],.cells false n2 (l.map ph),.cells false 0 ([].map ph)]) ?_ k _ _ ?_;rotate_left
  .exact ⟨0,[],0,H1,kq hh,rfl⟩
  clear hh h H1;rintro m h bs ⟨i,l,n2,H1,hh,rfl⟩;rcases m with _|m
  .rw [zey] at H1;cases H1
  rw [zey] at H1;repeat apply fg
  refine rk [1,4,5,6,12] [] hh fun h hh=>?_;rcases isp H1 with ⟨c1,H1⟩|⟨c1,H1⟩;rotate_left
  .skip;refine cf (f2 hh (zAb c1)) ?_;refine xk ?_;cases H1;exact ce hh ⟨kq hh,rfl⟩
  refine ct (f2 hh (zAa c1)) ?_;refine sk ?_;apply fg;apply gl;obtain ⟨g2,H1⟩:=isg H1;obtain ⟨g3,H1⟩:=isg H1;refine rg [] [] [.cells true 3 [zgd n.nodes,zge n.links,zgf n.edges],.cells false (n2+1) ((l++[(gx n.nodes i).name]).map ph),.cells false 0 ([].map ph)] (fun h=>h 1=.ptr 0 0 3/\h 4=.arr 1 1 0 (n2+1) (n2+1) (n2+1)/\h 5=.arr 2 1 0 0 0 0/\h 6=.int .i64 i) (f2 hh (zag g2)) trivial fun h hh=>?_;refine rk [1,4,5,6] [] hh fun h hh=>?_;exact rd m hh ⟨(fi.wrap (i+1)),(l++[(gx n.nodes i).name]),(n2+1),H1,kq hh,rfl⟩
 clear hh h;rintro h bs ⟨hh,rfl⟩;repeat apply fg
 refine rk [1,4,5,7] [] hh fun h hh=>?_;obtain ⟨s_2,H1,H⟩:=zab H;refine cu [4,5] 3 (fun h bs=>(h 4=.arr 1 1 0 s_.2 s_.2 s_.2/\h 5=.arr 2 1 0 s_2.2 s_2.2 s_2.2)/\bs=[.cells true 3 [zgd n.nodes,zge n.links,zgf n.edges],.cells false s_.2 (s_.1.map ph),.cells false s_2.2 (s_2.1.map ph)]) ?_ ?_
 .skip;apply gl;refine jj [1,4,5,7] (fun m h bs=>∃ (i2:Int) (l2:List ByteArray) (n3:Nat),zex k n m i2 l2 n3=some s_2/\(h 1=.ptr 0 0 3/\h 4=.arr 1 1 0 s_.2 s_.2 s_.2/\h 5=.arr 2 1 0 n3 n3 n3/\h 7=.int .i64 i2)/\bs=[.cells true 3 [zgd n.nodes,zge n.links,zgf n.edges],.cells false s_.2 (s_.1.map ph),.cells false n3 (l2.map ph)]) ?_ k _ _ ?_;rotate_left
  .exact ⟨0,[],0,H1,kq hh,rfl⟩
  clear hh h H1;rintro m h bs ⟨i2,l2,n3,H1,hh,rfl⟩;rcases m with _|m
  .rw [zex] at H1;cases H1
  rw [zex] at H1;repeat apply fg
  refine rk [1,4,5,7,28] [] hh fun h hh=>?_;rcases isp H1 with ⟨c4,H1⟩|⟨c4,H1⟩;rotate_left
  .skip;refine cf (f2 hh (zAb c4)) ?_;refine xk ?_;cases H1;exact ce hh ⟨kq hh,rfl⟩
  refine ct (f2 hh (zAa c4)) ?_;refine sk ?_;apply fg;apply gl;obtain ⟨g5,H1⟩:=isg H1;obtain ⟨g6,H1⟩:=isg H1;refine rg [] [] [.cells true 3 [zgd n.nodes,zge n.links,zgf n.edges],.cells false s_.2 (s_.1.map ph),.cells false (n3+1) ((l2++[(gx n.edges i2).name]).map ph)] (fun h=>h 1=.ptr 0 0 3/\h 4=.arr 1 1 0 s_.2 s_.2 s_.2/\h 5=.arr 2 1 0 (n3+1) (n3+1) (n3+1)/\h 7=.int .i64 i2) (f2 hh (zag g5)) trivial fun h hh=>?_;refine rk [1,4,5,7] [] hh fun h hh=>?_;exact rd m hh ⟨(fi.wrap (i2+1)),(l2++[(gx n.edges i2).name]),(n3+1),H1,kq hh,rfl⟩
 clear hh h;rintro h bs ⟨hh,rfl⟩;apply fg;refine rk [2,3] [] hh fun h hh=>?_;obtain ⟨g7,H⟩:=isg H;obtain ⟨g8,H⟩:=isg H;refine TW.freeze 2 (b:=1) (e:=1) (off:=0) (len:=s_.2) (cap:=s_.2) (M:=s_.2) (s_.1.map ph) (kq hh) (by rfl) (by omega) (by omega) (by rw [gp,Nat.mul_one,zlj (fun _=>rfl),ij (by rw [fq];omega)]) (fun t ht=>by obtain ⟨x,_,rfl⟩:=jo.1 ht;first|rfl|exact zf6 _|exact za1 _|exact zd0 _|exact zau _ | (rw [fq];rfl)) (by rw [fq]<;>exact g7) (by omega) ?_;rw [zec _ _ _ (by simp only [lzA]<;>omega)];simp only [scA];refine gk [2,3] hh fun h hh=>?_;refine TW.freeze 3 (b:=2) (e:=1) (off:=0) (len:=s_2.2) (cap:=s_2.2) (M:=s_2.2) (s_2.1.map ph) (kq hh) (by rfl) (by omega) (by omega) (by rw [gp,Nat.mul_one,zlj (fun _=>rfl),ij (by rw [fq];omega)]) (fun t ht=>by obtain ⟨x,_,rfl⟩:=jo.1 ht;first|rfl|exact zf6 _|exact za1 _|exact zd0 _|exact zau _ | (rw [fq];rfl)) (by rw [fq]<;>exact g8) (by omega) ?_;rw [zec _ _ _ (by simp only [lzA]<;>omega)];simp only [scA];refine gk [2,3] hh fun h hh=>?_;cases H;exact rt hh
def zem (k:Nat) (s_:ByteArray):Nat->Int->Option (Bool ⊕ Unit)
 |0,_=>none
 |m+1,i=>(if i<(s_.size:Int) then (((if 0<=i/\i<(s_.size:Int) then (if 97<=((bx s_ i).toNat:Int) then some (decide (((bx s_ i).toNat:Int)<=122)) else some false) else none):Option Bool).bind fun s_3=>(((if 0<=i/\i<(s_.size:Int) then (if 48<=((bx s_ i).toNat:Int) then (if ((bx s_ i).toNat:Int)<=57 then some true else some (decide (((bx s_ i).toNat:Int)=95))) else some (decide (((bx s_ i).toNat:Int)=95))) else none):Option Bool).bind fun s_4=>(if s_3=true then zem k s_ m (fi.wrap (i+1)) else (if s_4=true then (if i=0 then some (.inl false) else zem k s_ m (fi.wrap (i+1))) else some (.inl false))))) else some (.inr ()))
def zmr (k:Nat) (s_:ByteArray):Option Bool:=((zem k s_ k 0:Option (Bool ⊕ Unit)).bind fun o=>ks (fun r=>some r) (fun s_2=>(if 1<=(s_.size:Int) then some (decide ((s_.size:Int)<=24)) else some false)) o)
theorem z0s (ax:Axs) (hx:NoAx ax) (k:Nat) (s_:ByteArray) (v:Bool) (H:zmr k s_=some v):Pure Try.prog (EE ax) [] 67 [.str s_] (.bool v):=by
 rw [zmr] at H;refine en [.tmp 2] 56 [0] (hx.no _ (by decide)) (fn67 ax) ?_;intro h hh;apply fg;refine rk [0] [] hh fun h hh=>?_;repeat apply fg
 refine rk [0,3] [] hh fun h hh=>?_;obtain ⟨o,H1,H⟩:=zab H;refine cu [0] 0 (fun h bs=>∃ s_2:Unit,o=.inr s_2/\(h 0=.str s_)/\bs=[]) ?_ ?_
 .skip;apply gl;refine jj [0,3] (fun m h bs=>∃ (i:Int),zem k s_ m i=some o/\(h 0=.str s_/\h 3=.int .i64 i)/\bs=[]) ?_ k _ _ ?_;rotate_left
  .exact ⟨0,H1,kq hh,rfl⟩
  clear hh h H1;rintro m h bs ⟨i,H1,hh,rfl⟩;rcases m with _|m
  .rw [zem] at H1;cases H1
  rw [zem] at H1;repeat apply fg
  refine rk [0,3,9] [] hh fun h hh=>?_;rcases isp H1 with ⟨c1,H1⟩|⟨c1,H1⟩;rotate_left
  .skip;refine cf (f2 hh (zAb c1)) ?_;refine xk ?_;cases H1;exact ce hh ⟨_,rfl,kq hh,rfl⟩
  refine ct (f2 hh (zAa c1)) ?_;refine sk ?_;apply fg;apply gl;obtain ⟨s_3,H2,H1⟩:=zab H1;apply fg;refine cu [0,3,4] 0 (fun h bs=>(h 0=.str s_/\h 3=.int .i64 i/\h 4=.bool s_3)/\bs=[]) ?_ ?_
  .skip;obtain ⟨g2,H2⟩:=isg H2;rcases isp H2 with ⟨c3,H2⟩|⟨c3,H2⟩;rotate_left
   .skip;refine rk [0,3,4] [] (f3 hh (zAb c3) (zu9 g2)) fun h hh=>?_;cases H2;exact ce hh ⟨kq hh,rfl⟩
   refine rk [0,3,4] [] (f3 hh (zAa c3) (zu9 g2)) fun h hh=>?_;cases H2;exact ce hh ⟨kq hh,rfl⟩
  clear hh h;rintro h bs ⟨hh,rfl⟩;obtain ⟨s_4,H2,H1⟩:=zab H1;apply fg;refine cu [0,3,4,5] 0 (fun h bs=>(h 0=.str s_/\h 3=.int .i64 i/\h 4=.bool s_3/\h 5=.bool s_4)/\bs=[]) ?_ ?_
  .skip;obtain ⟨g4,H2⟩:=isg H2;rcases isp H2 with ⟨c5,H2⟩|⟨c5,H2⟩;rotate_left
   .skip;refine rk [0,3,4,5] [] (f3 hh (zAb c5) (zu9 g4)) fun h hh=>?_;cases H2;exact ce hh ⟨kq hh,rfl⟩
   rcases isp H2 with ⟨c6,H2⟩|⟨c6,H2⟩;rotate_left
   .skip;refine rk [0,3,4,5] [] (f3 hh (zAa c5) (f2 (zAb c6) (zu9 g4))) fun h hh=>?_;cases H2;exact ce hh ⟨kq hh,rfl⟩
   refine rk [0,3,4,5] [] (f3 hh (zAa c5) (f2 (zAa c6) (zu9 g4))) fun h hh=>?_;cases H2;exact ce hh ⟨kq hh,rfl⟩
  clear hh h;rintro h bs ⟨hh,rfl⟩;rcases isb H1 with ⟨c7,H1⟩|⟨c7,H1⟩;rotate_left
  .skip;rcases isb H1 with ⟨c8,H1⟩|⟨c8,H1⟩;rotate_left
   .skip;apply fg;refine rk [0,3,47] [] (f3 hh c7 c8) fun h hh=>?_;refine ct hh ?_;apply fg;refine rk [2] [] (f3 hh c7 c8) fun h hh=>?_;cases H1;obtain rfl:=sinl H;exact rt hh
   apply fg;refine rk [0,3,47] [] (f3 hh c7 c8) fun h hh=>?_;rcases isp H1 with ⟨c9,H1⟩|⟨c9,H1⟩;rotate_left
   .skip;refine cf (f2 hh (zAb c9)) ?_;refine sk ?_;refine rk [0,3] [] (f3 hh c7 c8) fun h hh=>?_;exact rd m hh ⟨(fi.wrap (i+1)),H1,kq hh,rfl⟩
   refine ct (f2 hh (zAa c9)) ?_;apply fg;refine rk [2] [] (f3 hh c7 c8) fun h hh=>?_;cases H1;obtain rfl:=sinl H;exact rt hh
  apply fg;refine rk [0,3,47] [] (f2 hh c7) fun h hh=>?_;refine cf hh ?_;refine sk ?_;refine rk [0,3] [] (f2 hh c7) fun h hh=>?_;exact rd m hh ⟨(fi.wrap (i+1)),H1,kq hh,rfl⟩
 clear hh h;rintro h bs ⟨s_2,rfl,hh,rfl⟩;replace H:=sinr H;rcases isp H with ⟨c10,H⟩|⟨c10,H⟩;rotate_left
 .skip;apply fg;refine rk [2] [] (f2 hh (zAb c10)) fun h hh=>?_;cases H;exact rt hh
 apply fg;refine rk [2] [] (f2 hh (zAa c10)) fun h hh=>?_;cases H;exact rt hh
def zev (k:Nat) (l:List ByteArray) (i:Int):Nat->Int->Option (Bool ⊕ Unit)
 |0,_=>none
 |m+1,k_=>(if k_<i then (if 0<=k_/\k_<(l.length:Int) then (if (gx l k_)=(gx l i) then some (.inl false) else zev k l i m (fi.wrap (k_+1))) else none) else some (.inr ()))
def zew (k:Nat) (l:List ByteArray):Nat->Int->Option (Bool ⊕ Unit)
 |0,_=>none
 |m+1,i=>(if i<(l.length:Int) then (((if 0<=i/\i<(l.length:Int) then ((zmr k (gx l i)).bind fun ei=>(if ei=true then ((zev k l i k 0:Option (Bool ⊕ Unit)).bind fun o=>ks (fun r=>some (.inl r)) (fun s_3=>some (.inr ())) o) else some (.inl false))) else none):Option (Bool ⊕ Unit)).bind fun o2=>ks (fun r=>some (.inl r)) (fun s_2=>zew k l m (fi.wrap (i+1))) o2) else some (.inr ()))
def zjh (k:Nat) (l:List ByteArray):Option Bool:=((zew k l k 0:Option (Bool ⊕ Unit)).bind fun o3=>ks (fun r=>some r) (fun s_=>some true) o3)
theorem zpd (ax:Axs) (hx:NoAx ax) (k:Nat) (l:List ByteArray) (v:Bool) (H:zjh k l=some v):Pure Try.prog (EE ax) [] 51 [strs l] (.bool v):=by
 rw [zjh] at H;refine en [.tmp 2] 33 [0] (hx.no _ (by decide)) (fn51 ax) ?_;intro h hh;apply fg;refine rk [0] [] hh fun h hh=>?_;repeat apply fg
 refine rk [0,3] [] hh fun h hh=>?_;obtain ⟨o3,H1,H⟩:=zab H;refine cu [] 0 (fun h bs=>∃ s_:Unit,o3=.inr s_/\(True)/\bs=[]) ?_ ?_
 .skip;apply gl;refine jj [0,3] (fun m h bs=>∃ (i:Int),zew k l m i=some o3/\(h 0=strs l/\h 3=.int .i64 i)/\bs=[]) ?_ k _ _ ?_;rotate_left
  .exact ⟨0,H1,kq hh,rfl⟩
  clear hh h H1;rintro m h bs ⟨i,H1,hh,rfl⟩;rcases m with _|m
  .rw [zew] at H1;cases H1
  rw [zew] at H1;repeat apply fg
  refine rk [0,3,9] [] hh fun h hh=>?_;rcases isp H1 with ⟨c1,H1⟩|⟨c1,H1⟩;rotate_left
  .skip;refine cf (f2 hh (zAb c1)) ?_;refine xk ?_;cases H1;exact ce hh ⟨_,rfl,kq hh,rfl⟩
  refine ct (f2 hh (zAa c1)) ?_;refine sk ?_;obtain ⟨o2,H2,H1⟩:=zab H1;apply fg;refine cu [0,3] 0 (fun h bs=>∃ s_2:Unit,o2=.inr s_2/\(h 0=strs l/\h 3=.int .i64 i)/\bs=[]) ?_ ?_
  .skip;apply gl;obtain ⟨g2,H2⟩:=isg H2;obtain ⟨ei,e3,H2⟩:=zab H2;apply fg;refine rkp [0,3,4] [] [.bool ei] (f2 hh (zag g2)) ?_ ?_
   .exact ⟨gd ((z0s ax hx k (gx l i) ei e3 ).call _),trivial⟩
   clear hh h;intro h hh;repeat apply fg
   refine rk [0,3,18] [] hh fun h hh=>?_;rcases isb H2 with ⟨c4,H2⟩|⟨c4,H2⟩;rotate_left
   .skip;refine ct (f2 hh c4) ?_;apply fg;refine rk [2] [] (f2 hh c4) fun h hh=>?_;cases H2;obtain rfl:=sinm H1;obtain rfl:=sinl H;exact rt hh
   refine cf (f2 hh c4) ?_;refine sk ?_;apply fg;refine rk [0,3,5] [] (f2 hh c4) fun h hh=>?_;obtain ⟨o,H3,H2⟩:=zab H2;refine cu [0,3] 0 (fun h bs=>∃ s_3:Unit,o=.inr s_3/\(h 0=strs l/\h 3=.int .i64 i)/\bs=[]) ?_ ?_
   .skip;apply gl;refine jj [0,3,5] (fun m h bs=>∃ (k_:Int),zev k l i m k_=some o/\(h 0=strs l/\h 3=.int .i64 i/\h 5=.int .i64 k_)/\bs=[]) ?_ k _ _ ?_;rotate_left
    .exact ⟨0,H3,kq hh,rfl⟩
    clear hh h H3;rintro m h bs ⟨k_,H3,hh,rfl⟩;rcases m with _|m
    .rw [zev] at H3;cases H3
    rw [zev] at H3;repeat apply fg
    refine rk [0,3,5,21] [] (f2 hh c4) fun h hh=>?_;rcases isp H3 with ⟨c5,H3⟩|⟨c5,H3⟩;rotate_left
    .skip;refine cf (f2 hh (zAb c5)) ?_;refine xk ?_;cases H3;exact ce hh ⟨_,rfl,kq hh,rfl⟩
    refine ct (f2 hh (zAa c5)) ?_;refine sk ?_;apply fg;apply gl;obtain ⟨g6,H3⟩:=isg H3;apply fg;refine dk 8 [0,3,5,32] [] [] [] (f3 hh c4 (f2 (zag g6) (zag g2))) trivial trivial fun h hh=>?_;rcases isp H3 with ⟨c7,H3⟩|⟨c7,H3⟩;rotate_left
    .skip;refine cf (f2 hh (zAb c7)) ?_;refine sk ?_;refine rk [0,3,5] [] (f2 hh c4) fun h hh=>?_;exact rd m hh ⟨(fi.wrap (k_+1)),H3,kq hh,rfl⟩
    refine ct (f2 hh (zAa c7)) ?_;apply fg;refine rk [2] [] (f2 hh c4) fun h hh=>?_;cases H3;obtain rfl:=sinm H2;obtain rfl:=sinm H1;obtain rfl:=sinl H;exact rt hh
   clear hh h;rintro h bs ⟨s_3,rfl,hh,rfl⟩;replace H2:=sinr H2;cases H2;exact ce hh ⟨_,rfl,kq hh,rfl⟩
  clear hh h;rintro h bs ⟨s_2,rfl,hh,rfl⟩;replace H1:=sinr H1;refine rk [0,3] [] hh fun h hh=>?_;exact rd m hh ⟨(fi.wrap (i+1)),H1,kq hh,rfl⟩
 clear hh h;rintro h bs ⟨s_,rfl,hh,rfl⟩;replace H:=sinr H;apply fg;refine rk [2] [] hh fun h hh=>?_;cases H;exact rt hh
def zg0 (k:Nat) (n:Net) (k_:Int):Option Bool:=(if 0<=k_ then some (decide (k_<(n.nodes.length:Int))) else some false)
theorem zb5 (ax:Axs) (hx:NoAx ax) (k:Nat) (n:Net) (k_:Int) (v:Bool) (H:zg0 k n k_=some v):Pure Try.prog (EE ax) [] 52 [eNet n,.int .i64 k_] (.bool v):=by
 rw [zg0] at H;refine en [.tmp 4] 14 [0,1] (hx.no _ (by decide)) (fn52 ax) ?_;intro h hh;apply fg;refine rk [1,2] [] hh fun h hh=>?_;rcases isp H with ⟨c1,H⟩|⟨c1,H⟩;rotate_left
 .skip;apply fg;refine rk [4] [] (f2 hh (zAb c1)) fun h hh=>?_;cases H;exact rt hh
 apply fg;refine rk [4] [] (f2 hh (zAa c1)) fun h hh=>?_;cases H;exact rt hh
def ze1 (k:Nat) (n:Net):Nat->Int->Option (Int ⊕ Unit)
 |0,_=>none
 |m+1,i=>(if i<(n.nodes.length:Int) then (if 0<=i/\i<(n.nodes.length:Int) then (if ((gx n.nodes i).rules)<0 then some (.inl 1) else (if 4000<((gx n.nodes i).rules) then some (.inl 1) else (if ((gx n.nodes i).entries)<0 then some (.inl 1) else (if 100000<((gx n.nodes i).entries) then some (.inl 1) else ze1 k n m (fi.wrap (i+1)))))) else none) else some (.inr ()))
def ze0 (k:Nat) (n:Net):Nat->Int->Option (Int ⊕ Unit)
 |0,_=>none
 |m+1,i2=>(if i2<(n.links.length:Int) then (if 0<=i2/\i2<(n.links.length:Int) then ((zg0 k n ((gx n.links i2).frm)).bind fun bq=>(if bq=true then ((zg0 k n ((gx n.links i2).to)).bind fun b9=>(if b9=true then (if ((gx n.links i2).frm)=((gx n.links i2).to) then some (.inl 1) else (if ((gx n.links i2).cap)<0 then some (.inl 1) else (if 1048576<((gx n.links i2).cap) then some (.inl 1) else ze0 k n m (fi.wrap (i2+1))))) else some (.inl 1))) else some (.inl 1))) else none) else some (.inr ()))
def zez (k:Nat) (n:Net):Nat->Int->Option (Int ⊕ Unit)
 |0,_=>none
 |m+1,i3=>(if i3<(n.edges.length:Int) then (if 0<=i3/\i3<(n.edges.length:Int) then ((zg0 k n ((gx n.edges i3).node)).bind fun ej=>(if ej=true then zez k n m (fi.wrap (i3+1)) else some (.inl 1))) else none) else some (.inr ()))
def zk7 (k:Nat) (n:Net):Option Int:=(((if 200<(n.nodes.length:Int) then some true else (if 2000<(n.links.length:Int) then some true else some (decide (400<(n.edges.length:Int))))):Option Bool).bind fun s_=>(if s_=true then some 2 else ((zk6 k n).bind fun cl=>((zjh k cl.1).bind fun ek=>((zjh k cl.2).bind fun em=>(((if ek=true then some (!em) else some true):Option Bool).bind fun s_2=>(if s_2=true then some 4 else ((ze1 k n k 0:Option (Int ⊕ Unit)).bind fun o3=>ks (fun r=>some r) (fun s_3=>((ze0 k n k 0:Option (Int ⊕ Unit)).bind fun o2=>ks (fun r=>some r) (fun s_4=>((zez k n k 0:Option (Int ⊕ Unit)).bind fun o=>ks (fun r=>some r) (fun s_5=>some 0) o)) o2)) o3))))))))
theorem zy3 (ax:Axs) (hx:NoAx ax) (k:Nat) (n:Net) (v:Int) (H:zk7 k n=some v):Pure Try.prog (EE ax) [] 29 [eNet n] (.int .i64 v):=by
 rw [zk7] at H;refine en [.tmp 2] 130 [0] (hx.no _ (by decide)) (fn29 ax) ?_;intro h hh;apply fg;refine rk [1] [] hh fun h hh=>?_;obtain ⟨s_,H1,H⟩:=zab H;repeat apply fg
 refine cu [1,27] 1 (fun h bs=>(h 1=.ptr 0 0 3/\h 27=.bool s_)/\bs=[.cells true 3 [zgd n.nodes,zge n.links,zgf n.edges]]) ?_ ?_
 .skip;rcases isp H1 with ⟨c1,H1⟩|⟨c1,H1⟩;rotate_left
  .skip;rcases isp H1 with ⟨c2,H1⟩|⟨c2,H1⟩;rotate_left
   .skip;refine rk [1,27] [] (f3 hh (zAb c1) (zAb c2)) fun h hh=>?_;cases H1;exact ce hh ⟨kq hh,rfl⟩
   refine rk [1,27] [] (f3 hh (zAb c1) (zAa c2)) fun h hh=>?_;cases H1;exact ce hh ⟨kq hh,rfl⟩
  refine rk [1,27] [] (f2 hh (zAa c1)) fun h hh=>?_;cases H1;exact ce hh ⟨kq hh,rfl⟩
 clear hh h;rintro h bs ⟨hh,rfl⟩;rcases isb H with ⟨c3,H⟩|⟨c3,H⟩;rotate_left
 .skip;refine cf (f2 hh c3) ?_;refine sk ?_;obtain ⟨cl,e4,H⟩:=zab H;apply fg;refine rkp [1,3,4] [] [.tup [strs cl.1,strs cl.2]] (f2 hh c3) ?_ ?_
  .exact ⟨gd (i7 (zy2 ax hx k n cl e4 ) (by first|rfl|simp only [c3])),trivial⟩
  clear hh h;intro h hh;obtain ⟨ek,e5,H⟩:=zab H;apply fg;refine rkp [1,4,5] [] [.bool ek] (f2 hh c3) ?_ ?_
  .exact ⟨gd (i7 (zpd ax hx k cl.1 ek e5 ) (by first|rfl|simp only [c3])),trivial⟩
  clear hh h;intro h hh;obtain ⟨em,e6,H⟩:=zab H;apply fg;refine rkp [1,5,6] [] [.bool em] (f2 hh c3) ?_ ?_
  .exact ⟨gd (i7 (zpd ax hx k cl.2 em e6 ) (by first|rfl|simp only [c3])),trivial⟩
  clear hh h;intro h hh;obtain ⟨s_2,H1,H⟩:=zab H;repeat apply fg
  refine cu [1,42] 1 (fun h bs=>(h 1=.ptr 0 0 3/\h 42=.bool s_2)/\bs=[.cells true 3 [zgd n.nodes,zge n.links,zgf n.edges]]) ?_ ?_
  .skip;rcases isb H1 with ⟨c7,H1⟩|⟨c7,H1⟩;rotate_left
   .skip;refine rk [1,42] [] (f3 hh c7 c3) fun h hh=>?_;cases H1;exact ce hh ⟨kq hh,rfl⟩
   refine rk [1,42] [] (f3 hh c7 c3) fun h hh=>?_;cases H1;exact ce hh ⟨kq hh,rfl⟩
  clear hh h;rintro h bs ⟨hh,rfl⟩;rcases isb H with ⟨c8,H⟩|⟨c8,H⟩;rotate_left
  .skip;refine cf (f2 hh c8) ?_;refine sk ?_;repeat apply fg
   refine rk [1,7] [] (f3 hh c3 c8) fun h hh=>?_;obtain ⟨o3,H1,H⟩:=zab H;refine cu [1] 1 (fun h bs=>∃ s_3:Unit,o3=.inr s_3/\(h 1=.ptr 0 0 3)/\bs=[.cells true 3 [zgd n.nodes,zge n.links,zgf n.edges]]) ?_ ?_
   .skip;apply gl;refine jj [1,7] (fun m h bs=>∃ (i:Int),ze1 k n m i=some o3/\(h 1=.ptr 0 0 3/\h 7=.int .i64 i)/\bs=[.cells true 3 [zgd n.nodes,zge n.links,zgf n.edges]]) ?_ k _ _ ?_;rotate_left
    .exact ⟨0,H1,kq hh,rfl⟩
    clear hh h H1;rintro m h bs ⟨i,H1,hh,rfl⟩;rcases m with _|m
    .rw [ze1] at H1;cases H1
    rw [ze1] at H1;repeat apply fg
    refine rk [1,7,47] [] (f3 hh c3 c8) fun h hh=>?_;rcases isp H1 with ⟨c9,H1⟩|⟨c9,H1⟩;rotate_left
    .skip;refine cf (f2 hh (zAb c9)) ?_;refine xk ?_;cases H1;exact ce hh ⟨_,rfl,kq hh,rfl⟩
    refine ct (f2 hh (zAa c9)) ?_;refine sk ?_;apply fg;apply gl;obtain ⟨g10,H1⟩:=isg H1;apply fg;refine rk [1,7,8] [] (f3 hh c3 (f2 c8 (zag g10))) fun h hh=>?_;rcases isp H1 with ⟨c11,H1⟩|⟨c11,H1⟩;rotate_left
    .skip;rcases isp H1 with ⟨c12,H1⟩|⟨c12,H1⟩;rotate_left
     .skip;rcases isp H1 with ⟨c13,H1⟩|⟨c13,H1⟩;rotate_left
      .skip;apply fg;refine rk [1,7,72] [] (f3 hh (zAb c11) (f3 (zAb c12) (zAb c13) (f2 c3 c8))) fun h hh=>?_;rcases isp H1 with ⟨c14,H1⟩|⟨c14,H1⟩;rotate_left
       .skip;refine cf (f2 hh (zAb c14)) ?_;refine sk ?_;refine rk [1,7] [] (f3 hh c3 c8) fun h hh=>?_;exact rd m hh ⟨(fi.wrap (i+1)),H1,kq hh,rfl⟩
       refine ct (f2 hh (zAa c14)) ?_;apply fg;refine rk [2] [] (f3 hh c3 c8) fun h hh=>?_;cases H1;obtain rfl:=sinl H;exact rt hh
      apply fg;refine rk [1,7,72] [] (f3 hh (zAb c11) (f3 (zAb c12) (zAa c13) (f2 c3 c8))) fun h hh=>?_;refine ct hh ?_;apply fg;refine rk [2] [] (f3 hh c3 c8) fun h hh=>?_;cases H1;obtain rfl:=sinl H;exact rt hh
     apply fg;refine rk [1,7,72] [] (f3 hh (zAb c11) (f3 (zAa c12) c3 c8)) fun h hh=>?_;refine ct hh ?_;apply fg;refine rk [2] [] (f3 hh c3 c8) fun h hh=>?_;cases H1;obtain rfl:=sinl H;exact rt hh
    apply fg;refine rk [1,7,72] [] (f3 hh (zAa c11) (f2 c3 c8)) fun h hh=>?_;refine ct hh ?_;apply fg;refine rk [2] [] (f3 hh c3 c8) fun h hh=>?_;cases H1;obtain rfl:=sinl H;exact rt hh
   clear hh h;rintro h bs ⟨s_3,rfl,hh,rfl⟩;replace H:=sinr H;repeat apply fg
   refine rk [1,9] [] (f3 hh c3 c8) fun h hh=>?_;obtain ⟨o2,H1,H⟩:=zab H;refine cu [1] 1 (fun h bs=>∃ s_4:Unit,o2=.inr s_4/\(h 1=.ptr 0 0 3)/\bs=[.cells true 3 [zgd n.nodes,zge n.links,zgf n.edges]]) ?_ ?_
   .skip;apply gl;refine jj [1,9] (fun m h bs=>∃ (i2:Int),ze0 k n m i2=some o2/\(h 1=.ptr 0 0 3/\h 9=.int .i64 i2)/\bs=[.cells true 3 [zgd n.nodes,zge n.links,zgf n.edges]]) ?_ k _ _ ?_;rotate_left
    .exact ⟨0,H1,kq hh,rfl⟩
    clear hh h H1;rintro m h bs ⟨i2,H1,hh,rfl⟩;rcases m with _|m
    .rw [ze0] at H1;cases H1
    rw [ze0] at H1;repeat apply fg
    refine rk [1,9,77] [] (f3 hh c3 c8) fun h hh=>?_;rcases isp H1 with ⟨c15,H1⟩|⟨c15,H1⟩;rotate_left
    .skip;refine cf (f2 hh (zAb c15)) ?_;refine xk ?_;cases H1;exact ce hh ⟨_,rfl,kq hh,rfl⟩
    refine ct (f2 hh (zAa c15)) ?_;refine sk ?_;apply fg;apply gl;obtain ⟨g16,H1⟩:=isg H1;apply fg;refine rk [1,9,10] [] (f3 hh c3 (f2 c8 (zag g16))) fun h hh=>?_;obtain ⟨bq,e17,H1⟩:=zab H1;rcases isb H1 with ⟨c18,H1⟩|⟨c18,H1⟩;rotate_left
    .skip;apply fg;refine rkp [1,9,113] [] [.bool bq] (f3 hh c18 (f2 c3 c8)) ?_ ?_
     .exact ⟨gd (i7 (zb5 ax hx k n ((gx n.links i2).frm) bq e17 ) (by first|rfl|simp only [c3,c8,c18])),trivial⟩
     clear hh h;intro h hh;refine ct hh ?_;apply fg;refine rk [2] [] (f3 hh c3 (f2 c8 c18)) fun h hh=>?_;cases H1;obtain rfl:=sinl H;exact rt hh
    obtain ⟨b9,e19,H1⟩:=zab H1;rcases isb H1 with ⟨c20,H1⟩|⟨c20,H1⟩;rotate_left
    .skip;apply fg;refine rkp [1,9,113] [] [.bool bq,.bool b9] (f3 hh c18 (f3 c20 c3 c8)) ?_ ?_
     .exact ⟨gd (i7 (zb5 ax hx k n ((gx n.links i2).frm) bq e17 ) (by first|rfl|simp only [c3,c8,c18,c20])),gd (i7 (zb5 ax hx k n ((gx n.links i2).to) b9 e19 ) (by first|rfl|simp only [c3,c8,c18,c20])),trivial⟩
     clear hh h;intro h hh;refine ct hh ?_;apply fg;refine rk [2] [] (f3 hh c3 (f3 c8 c18 c20)) fun h hh=>?_;cases H1;obtain rfl:=sinl H;exact rt hh
    rcases isp H1 with ⟨c21,H1⟩|⟨c21,H1⟩;rotate_left
    .skip;rcases isp H1 with ⟨c22,H1⟩|⟨c22,H1⟩;rotate_left
     .skip;apply fg;refine rkp [1,9,113] [] [.bool bq,.bool b9] (f3 hh c18 (f3 c20 (zAb c21) (f3 (zAb c22) c3 c8))) ?_ ?_
      .exact ⟨gd (i7 (zb5 ax hx k n ((gx n.links i2).frm) bq e17 ) (by first|rfl|simp only [c3,c8,c18,c20])),gd (i7 (zb5 ax hx k n ((gx n.links i2).to) b9 e19 ) (by first|rfl|simp only [c3,c8,c18,c20])),trivial⟩
      clear hh h;intro h hh;rcases isp H1 with ⟨c23,H1⟩|⟨c23,H1⟩;rotate_left
      .skip;refine cf (f2 hh (zAb c23)) ?_;refine sk ?_;refine rk [1,9] [] (f3 hh c3 (f3 c8 c18 c20)) fun h hh=>?_;exact rd m hh ⟨(fi.wrap (i2+1)),H1,kq hh,rfl⟩
      refine ct (f2 hh (zAa c23)) ?_;apply fg;refine rk [2] [] (f3 hh c3 (f3 c8 c18 c20)) fun h hh=>?_;cases H1;obtain rfl:=sinl H;exact rt hh
     apply fg;refine rkp [1,9,113] [] [.bool bq,.bool b9] (f3 hh c18 (f3 c20 (zAb c21) (f3 (zAa c22) c3 c8))) ?_ ?_
     .exact ⟨gd (i7 (zb5 ax hx k n ((gx n.links i2).frm) bq e17 ) (by first|rfl|simp only [c3,c8,c18,c20])),gd (i7 (zb5 ax hx k n ((gx n.links i2).to) b9 e19 ) (by first|rfl|simp only [c3,c8,c18,c20])),trivial⟩
     clear hh h;intro h hh;refine ct hh ?_;apply fg;refine rk [2] [] (f3 hh c3 (f3 c8 c18 c20)) fun h hh=>?_;cases H1;obtain rfl:=sinl H;exact rt hh
    apply fg;refine rkp [1,9,113] [] [.bool bq,.bool b9] (f3 hh c18 (f3 c20 (zAa c21) (f2 c3 c8))) ?_ ?_
    .exact ⟨gd (i7 (zb5 ax hx k n ((gx n.links i2).frm) bq e17 ) (by first|rfl|simp only [c3,c8,c18,c20])),gd (i7 (zb5 ax hx k n ((gx n.links i2).to) b9 e19 ) (by first|rfl|simp only [c3,c8,c18,c20])),trivial⟩
    clear hh h;intro h hh;refine ct hh ?_;apply fg;refine rk [2] [] (f3 hh c3 (f3 c8 c18 c20)) fun h hh=>?_;cases H1;obtain rfl:=sinl H;exact rt hh
   clear hh h;rintro h bs ⟨s_4,rfl,hh,rfl⟩;replace H:=sinr H;repeat apply fg
   refine rk [1,11] [] (f3 hh c3 c8) fun h hh=>?_;obtain ⟨o,H1,H⟩:=zab H;refine cu [] 1 (fun h bs=>∃ s_5:Unit,o=.inr s_5/\(True)/\bs=[.cells true 3 [zgd n.nodes,zge n.links,zgf n.edges]]) ?_ ?_
   .skip;apply gl;refine jj [1,11] (fun m h bs=>∃ (i3:Int),zez k n m i3=some o/\(h 1=.ptr 0 0 3/\h 11=.int .i64 i3)/\bs=[.cells true 3 [zgd n.nodes,zge n.links,zgf n.edges]]) ?_ k _ _ ?_;rotate_left
    .exact ⟨0,H1,kq hh,rfl⟩
    clear hh h H1;rintro m h bs ⟨i3,H1,hh,rfl⟩;rcases m with _|m
    .rw [zez] at H1;cases H1
    rw [zez] at H1;repeat apply fg
    refine rk [1,11,118] [] (f3 hh c3 c8) fun h hh=>?_;rcases isp H1 with ⟨c24,H1⟩|⟨c24,H1⟩;rotate_left
    .skip;refine cf (f2 hh (zAb c24)) ?_;refine xk ?_;cases H1;exact ce hh ⟨_,rfl,kq hh,rfl⟩
    refine ct (f2 hh (zAa c24)) ?_;refine sk ?_;apply fg;apply gl;obtain ⟨g25,H1⟩:=isg H1;obtain ⟨ej,e26,H1⟩:=zab H1;apply fg;refine dk 7 [1,11,129] [] [] [(.bool ej,stL [.cells true 3 [zgd n.nodes,zge n.links,zgf n.edges]])] (f3 hh c3 (f2 c8 (zag g25))) trivial ?_ ?_
    .exact ⟨gd (i7 (zb5 ax hx k n ((gx n.edges i3).node) ej e26 ) (by first|rfl|simp only [c3,c8])),trivial⟩
    clear hh h;intro h hh;rcases isb H1 with ⟨c27,H1⟩|⟨c27,H1⟩;rotate_left
    .skip;refine ct (f2 hh c27) ?_;apply fg;refine rk [2] [] (f3 hh c3 (f2 c8 c27)) fun h hh=>?_;cases H1;obtain rfl:=sinl H;exact rt hh
    refine cf (f2 hh c27) ?_;refine sk ?_;refine rk [1,11] [] (f3 hh c3 (f2 c8 c27)) fun h hh=>?_;exact rd m hh ⟨(fi.wrap (i3+1)),H1,kq hh,rfl⟩
   clear hh h;rintro h bs ⟨s_5,rfl,hh,rfl⟩;replace H:=sinr H;apply fg;refine rk [2] [] (f3 hh c3 c8) fun h hh=>?_;cases H;exact rt hh
  refine ct (f2 hh c8) ?_;apply fg;refine rk [2] [] (f3 hh c3 c8) fun h hh=>?_;cases H;exact rt hh
 refine ct (f2 hh c3) ?_;apply fg;refine rk [2] [] (f2 hh c3) fun h hh=>?_;cases H;exact rt hh
def zfm (k:Nat) (t:List Rule) (k_:Int):Nat->Int->Option (Bool ⊕ Unit)
 |0,_=>none
 |m+1,i=>(if i<(((gx t k_).outs).length:Int) then (if 0<=i/\i<(((gx t k_).outs).length:Int) then (if 10<((gx ((gx t k_).outs) i).length:Int) then some (.inl false) else zfm k t k_ m (fi.wrap (i+1))) else none) else some (.inr ()))
def zfn (k:Nat) (t:List Rule):Nat->Int->Option (Bool ⊕ Unit)
 |0,_=>none
 |m+1,k_=>(if k_<(t.length:Int) then (((if 0<=k_/\k_<(t.length:Int) then (if 20<(((gx t k_).outs).length:Int) then some (.inl false) else ((zfm k t k_ k 0:Option (Bool ⊕ Unit)).bind fun o=>ks (fun r=>some (.inl r)) (fun s_3=>some (.inr ())) o)) else none):Option (Bool ⊕ Unit)).bind fun o2=>ks (fun r=>some (.inl r)) (fun s_2=>zfn k t m (fi.wrap (k_+1))) o2) else some (.inr ()))
def zpb (k:Nat) (t:List Rule) (most:Int):Option Bool:=((zfn k t k 0:Option (Bool ⊕ Unit)).bind fun o3=>ks (fun r=>some r) (fun s_=>some (decide ((t.length:Int)<=most))) o3)
theorem z3x (ax:Axs) (hx:NoAx ax) (k:Nat) (t:List Rule) (most:Int) (v:Bool) (H:zpb k t most=some v):Pure Try.prog (EE ax) [] 28 [zae t,.int .i64 most] (.bool v):=by
 rw [zpb] at H;refine en [.tmp 4] 44 [0,1] (hx.no _ (by decide)) (fn28 ax) ?_;intro h hh;apply fg;refine rk [0,1] [] hh fun h hh=>?_;repeat apply fg
 refine rk [0,1,5] [] hh fun h hh=>?_;obtain ⟨o3,H1,H⟩:=zab H;refine cu [0,1] 0 (fun h bs=>∃ s_:Unit,o3=.inr s_/\(h 0=zae t/\h 1=.int .i64 most)/\bs=[]) ?_ ?_
 .skip;apply gl;refine jj [0,1,5] (fun m h bs=>∃ (k_:Int),zfn k t m k_=some o3/\(h 0=zae t/\h 1=.int .i64 most/\h 5=.int .i64 k_)/\bs=[]) ?_ k _ _ ?_;rotate_left
  .exact ⟨0,H1,kq hh,rfl⟩
  clear hh h H1;rintro m h bs ⟨k_,H1,hh,rfl⟩;rcases m with _|m
  .rw [zfn] at H1;cases H1
  rw [zfn] at H1;repeat apply fg
  refine rk [0,1,5,10] [] hh fun h hh=>?_;rcases isp H1 with ⟨c1,H1⟩|⟨c1,H1⟩;rotate_left
  .skip;refine cf (f2 hh (zAb c1)) ?_;refine xk ?_;cases H1;exact ce hh ⟨_,rfl,kq hh,rfl⟩
  refine ct (f2 hh (zAa c1)) ?_;refine sk ?_;obtain ⟨o2,H2,H1⟩:=zab H1;apply fg;refine cu [0,1,5] 0 (fun h bs=>∃ s_2:Unit,o2=.inr s_2/\(h 0=zae t/\h 1=.int .i64 most/\h 5=.int .i64 k_)/\bs=[]) ?_ ?_
  .skip;apply gl;obtain ⟨g2,H2⟩:=isg H2;repeat apply fg
   refine rk [0,1,5,19] [] (f2 hh (zag g2)) fun h hh=>?_;rcases isp H2 with ⟨c3,H2⟩|⟨c3,H2⟩;rotate_left
   .skip;refine cf (f2 hh (zAb c3)) ?_;refine sk ?_;apply fg;refine rk [0,1,5,6] [] hh fun h hh=>?_;obtain ⟨o,H3,H2⟩:=zab H2;refine cu [0,1,5] 0 (fun h bs=>∃ s_3:Unit,o=.inr s_3/\(h 0=zae t/\h 1=.int .i64 most/\h 5=.int .i64 k_)/\bs=[]) ?_ ?_
    .skip;apply gl;refine jj [0,1,5,6] (fun m h bs=>∃ (i:Int),zfm k t k_ m i=some o/\(h 0=zae t/\h 1=.int .i64 most/\h 5=.int .i64 k_/\h 6=.int .i64 i)/\bs=[]) ?_ k _ _ ?_;rotate_left
     .exact ⟨0,H3,kq hh,rfl⟩
     clear hh h H3;rintro m h bs ⟨i,H3,hh,rfl⟩;rcases m with _|m
     .rw [zfm] at H3;cases H3
     rw [zfm] at H3;repeat apply fg
     refine rk [0,1,5,6,27] [] (f2 hh (zag g2)) fun h hh=>?_;rcases isp H3 with ⟨c4,H3⟩|⟨c4,H3⟩;rotate_left
     .skip;refine cf (f2 hh (zAb c4)) ?_;refine xk ?_;cases H3;exact ce hh ⟨_,rfl,kq hh,rfl⟩
     refine ct (f2 hh (zAa c4)) ?_;refine sk ?_;apply fg;apply gl;obtain ⟨g5,H3⟩:=isg H3;apply fg;refine rk [0,1,5,6,39] [] (f3 hh (zag g2) (zag g5)) fun h hh=>?_;rcases isp H3 with ⟨c6,H3⟩|⟨c6,H3⟩;rotate_left
     .skip;refine cf (f2 hh (zAb c6)) ?_;refine sk ?_;refine rk [0,1,5,6] [] hh fun h hh=>?_;exact rd m hh ⟨(fi.wrap (i+1)),H3,kq hh,rfl⟩
     refine ct (f2 hh (zAa c6)) ?_;apply fg;refine rk [4] [] hh fun h hh=>?_;cases H3;obtain rfl:=sinm H2;obtain rfl:=sinm H1;obtain rfl:=sinl H;exact rt hh
    clear hh h;rintro h bs ⟨s_3,rfl,hh,rfl⟩;replace H2:=sinr H2;cases H2;exact ce hh ⟨_,rfl,kq hh,rfl⟩
   refine ct (f2 hh (zAa c3)) ?_;apply fg;refine rk [4] [] hh fun h hh=>?_;cases H2;obtain rfl:=sinm H1;obtain rfl:=sinl H;exact rt hh
  clear hh h;rintro h bs ⟨s_2,rfl,hh,rfl⟩;replace H1:=sinr H1;refine rk [0,1,5] [] hh fun h hh=>?_;exact rd m hh ⟨(fi.wrap (k_+1)),H1,kq hh,rfl⟩
 clear hh h;rintro h bs ⟨s_,rfl,hh,rfl⟩;replace H:=sinr H;apply fg;refine rk [4] [] hh fun h hh=>?_;cases H;exact rt hh
def zc9 (k:Nat) (n:Net) (r:Rule) (k_:Int):Nat->Int->Option (Bool ⊕ Unit)
 |0,_=>none
 |m+1,i=>(if 0<=k_/\k_<(r.outs.length:Int) then (if i<((gx r.outs k_).length:Int) then (if 0<=i/\i<((gx r.outs k_).length:Int) then ((zhl k ((gx (gx r.outs k_) i).mod)).bind fun eo=>(if ((gx (gx r.outs k_) i).link)<(-1) then some (.inl false) else (if (n.links.length:Int)<=((gx (gx r.outs k_) i).link) then some (.inl false) else (if eo=true then zc9 k n r k_ m (fi.wrap (i+1)) else some (.inl false))))) else none) else some (.inr ())) else none)
def zda (k:Nat) (n:Net) (r:Rule):Nat->Int->Option (Bool ⊕ Unit)
 |0,_=>none
 |m+1,k_=>(if k_<(r.outs.length:Int) then (((((if 0<=k_/\k_<(r.outs.length:Int) then (if ((gx r.outs k_).length:Int)<1 then some true else some (decide (8<((gx r.outs k_).length:Int)))) else none):Option Bool).bind fun s_4=>(if s_4=true then some (.inl false) else ((zc9 k n r k_ k 0:Option (Bool ⊕ Unit)).bind fun o=>ks (fun r=>some (.inl r)) (fun s_5=>some (.inr ())) o))):Option (Bool ⊕ Unit)).bind fun o2=>ks (fun r=>some (.inl r)) (fun s_3=>zda k n r m (fi.wrap (k_+1))) o2) else some (.inr ()))
def zjn (k:Nat) (n:Net) (steps:Int) (r:Rule):Option Bool:=((zh6 k r.mat).bind fun bk=>(((if r.prio<1 then some true else (if 65535<r.prio then some true else (if bk=true then (if r.step<(-1) then some true else (if steps<=r.step then some true else some (decide (16<(r.outs.length:Int))))) else some true))):Option Bool).bind fun s_=>(if s_=true then some false else ((zda k n r k 0:Option (Bool ⊕ Unit)).bind fun o3=>ks (fun r=>some r) (fun s_2=>some true) o3))))
theorem zvp (ax:Axs) (hx:NoAx ax) (k:Nat) (n:Net) (steps:Int) (r:Rule) (v:Bool) (H:zjn k n steps r=some v):Pure Try.prog (EE ax) [] 38 [eNet n,.int .i64 steps,zaj r] (.bool v):=by
 rw [zjn] at H;refine en [.tmp 6] 103 [0,1,2] (hx.no _ (by decide)) (fn38 ax) ?_;intro h hh;apply fg;refine rk [1,3,5] [] hh fun h hh=>?_;obtain ⟨bk,e1,H⟩:=zab H;apply fg;refine rkp [1,3,5,7] [] [.bool bk] hh ?_ ?_
 .exact ⟨gd ((zlp ax hx k r.mat bk e1 ).call _),trivial⟩
 clear hh h;intro h hh;obtain ⟨s_,H1,H⟩:=zab H;repeat apply fg
 refine cu [3,5,43] 2 (fun h bs=>(h 3=.ptr 0 0 3/\h 5=.ptr 1 0 23/\h 43=.bool s_)/\bs=[.cells true 3 [zgd n.nodes,zge n.links,zgf n.edges],.cells true 23 (fh .i64 r.prio :: (r.mat.mask.l.map (fh .i64)++(r.mat.bits.l.map (fh .i64)++[fh .i64 r.step,za3 r.outs])))]) ?_ ?_
 .skip;rcases isp H1 with ⟨c2,H1⟩|⟨c2,H1⟩;rotate_left
  .skip;rcases isp H1 with ⟨c3,H1⟩|⟨c3,H1⟩;rotate_left
   .skip;rcases isb H1 with ⟨c4,H1⟩|⟨c4,H1⟩;rotate_left
    .skip;refine rk [3,5,43] [] (f3 hh (zAb c2) (f2 (zAb c3) c4)) fun h hh=>?_;cases H1;exact ce hh ⟨kq hh,rfl⟩
    rcases isp H1 with ⟨c5,H1⟩|⟨c5,H1⟩;rotate_left
    .skip;rcases isp H1 with ⟨c6,H1⟩|⟨c6,H1⟩;rotate_left
     .skip;refine rk [3,5,43] [] (f3 hh (zAb c2) (f3 (zAb c3) c4 (f2 (zAb c5) (zAb c6)))) fun h hh=>?_;cases H1;exact ce hh ⟨kq hh,rfl⟩
     refine rk [3,5,43] [] (f3 hh (zAb c2) (f3 (zAb c3) c4 (f2 (zAb c5) (zAa c6)))) fun h hh=>?_;cases H1;exact ce hh ⟨kq hh,rfl⟩
    refine rk [3,5,43] [] (f3 hh (zAb c2) (f3 (zAb c3) c4 (zAa c5))) fun h hh=>?_;cases H1;exact ce hh ⟨kq hh,rfl⟩
   refine rk [3,5,43] [] (f3 hh (zAb c2) (zAa c3)) fun h hh=>?_;cases H1;exact ce hh ⟨kq hh,rfl⟩
  refine rk [3,5,43] [] (f2 hh (zAa c2)) fun h hh=>?_;cases H1;exact ce hh ⟨kq hh,rfl⟩
 clear hh h;rintro h bs ⟨hh,rfl⟩;rcases isb H with ⟨c7,H⟩|⟨c7,H⟩;rotate_left
 .skip;refine cf (f2 hh c7) ?_;refine sk ?_;repeat apply fg
  refine rk [3,5,8] [] (f2 hh c7) fun h hh=>?_;obtain ⟨o3,H1,H⟩:=zab H;refine cu [] 2 (fun h bs=>∃ s_2:Unit,o3=.inr s_2/\(True)/\bs=[.cells true 3 [zgd n.nodes,zge n.links,zgf n.edges],.cells true 23 (fh .i64 r.prio :: (r.mat.mask.l.map (fh .i64)++(r.mat.bits.l.map (fh .i64)++[fh .i64 r.step,za3 r.outs])))]) ?_ ?_
  .skip;apply gl;refine jj [3,5,8] (fun m h bs=>∃ (k_:Int),zda k n r m k_=some o3/\(h 3=.ptr 0 0 3/\h 5=.ptr 1 0 23/\h 8=.int .i64 k_)/\bs=[.cells true 3 [zgd n.nodes,zge n.links,zgf n.edges],.cells true 23 (fh .i64 r.prio :: (r.mat.mask.l.map (fh .i64)++(r.mat.bits.l.map (fh .i64)++[fh .i64 r.step,za3 r.outs])))]) ?_ k _ _ ?_;rotate_left
   .exact ⟨0,H1,kq hh,rfl⟩
   clear hh h H1;rintro m h bs ⟨k_,H1,hh,rfl⟩;rcases m with _|m
   .rw [zda] at H1;cases H1
   rw [zda] at H1;repeat apply fg
   refine rk [3,5,8,48] [] (f2 hh c7) fun h hh=>?_;rcases isp H1 with ⟨c8,H1⟩|⟨c8,H1⟩;rotate_left
   .skip;refine cf (f2 hh (zAb c8)) ?_;refine xk ?_;cases H1;exact ce hh ⟨_,rfl,kq hh,rfl⟩
   refine ct (f2 hh (zAa c8)) ?_;refine sk ?_;obtain ⟨o2,H2,H1⟩:=zab H1;apply fg;refine cu [3,5,8] 2 (fun h bs=>∃ s_3:Unit,o2=.inr s_3/\(h 3=.ptr 0 0 3/\h 5=.ptr 1 0 23/\h 8=.int .i64 k_)/\bs=[.cells true 3 [zgd n.nodes,zge n.links,zgf n.edges],.cells true 23 (fh .i64 r.prio :: (r.mat.mask.l.map (fh .i64)++(r.mat.bits.l.map (fh .i64)++[fh .i64 r.step,za3 r.outs])))]) ?_ ?_
   .skip;apply gl;obtain ⟨s_4,H3,H2⟩:=zab H2;repeat apply fg
    refine cu [3,5,8,66] 2 (fun h bs=>(h 3=.ptr 0 0 3/\h 5=.ptr 1 0 23/\h 8=.int .i64 k_/\h 66=.bool s_4)/\bs=[.cells true 3 [zgd n.nodes,zge n.links,zgf n.edges],.cells true 23 (fh .i64 r.prio :: (r.mat.mask.l.map (fh .i64)++(r.mat.bits.l.map (fh .i64)++[fh .i64 r.step,za3 r.outs])))]) ?_ ?_
    .skip;obtain ⟨g9,H3⟩:=isg H3;rcases isp H3 with ⟨c10,H3⟩|⟨c10,H3⟩;rotate_left
     .skip;refine rk [3,5,8,66] [] (f3 hh (zAb c10) (f2 c7 (zag g9))) fun h hh=>?_;cases H3;exact ce hh ⟨kq hh,rfl⟩
     refine rk [3,5,8,66] [] (f3 hh (zAa c10) (f2 c7 (zag g9))) fun h hh=>?_;cases H3;exact ce hh ⟨kq hh,rfl⟩
    clear hh h;rintro h bs ⟨hh,rfl⟩;rcases isb H2 with ⟨c11,H2⟩|⟨c11,H2⟩;rotate_left
    .skip;refine cf (f2 hh c11) ?_;refine sk ?_;apply fg;refine rk [3,5,8,9] [] (f3 hh c7 c11) fun h hh=>?_;obtain ⟨o,H3,H2⟩:=zab H2;refine cu [3,5,8] 2 (fun h bs=>∃ s_5:Unit,o=.inr s_5/\(h 3=.ptr 0 0 3/\h 5=.ptr 1 0 23/\h 8=.int .i64 k_)/\bs=[.cells true 3 [zgd n.nodes,zge n.links,zgf n.edges],.cells true 23 (fh .i64 r.prio :: (r.mat.mask.l.map (fh .i64)++(r.mat.bits.l.map (fh .i64)++[fh .i64 r.step,za3 r.outs])))]) ?_ ?_
     .skip;apply gl;refine jj [3,5,8,9] (fun m h bs=>∃ (i:Int),zc9 k n r k_ m i=some o/\(h 3=.ptr 0 0 3/\h 5=.ptr 1 0 23/\h 8=.int .i64 k_/\h 9=.int .i64 i)/\bs=[.cells true 3 [zgd n.nodes,zge n.links,zgf n.edges],.cells true 23 (fh .i64 r.prio :: (r.mat.mask.l.map (fh .i64)++(r.mat.bits.l.map (fh .i64)++[fh .i64 r.step,za3 r.outs])))]) ?_ k _ _ ?_;rotate_left
      .exact ⟨0,H3,kq hh,rfl⟩
      clear hh h H3;rintro m h bs ⟨i,H3,hh,rfl⟩;rcases m with _|m
      .rw [zc9] at H3;cases H3
      rw [zc9] at H3;obtain ⟨g12,H3⟩:=isg H3;repeat apply fg
      refine rk [3,5,8,9,74] [] (f3 hh c7 (f2 c11 (zag g12))) fun h hh=>?_;rcases isp H3 with ⟨c13,H3⟩|⟨c13,H3⟩;rotate_left
      .skip;refine cf (f2 hh (zAb c13)) ?_;refine xk ?_;cases H3;exact ce hh ⟨_,rfl,kq hh,rfl⟩
      refine ct (f2 hh (zAa c13)) ?_;refine sk ?_;apply fg;apply gl;obtain ⟨g14,H3⟩:=isg H3;apply fg;refine rk [3,5,8,9,10] [] (f3 hh c7 (f3 c11 (zag g12) (zag g14))) fun h hh=>?_;obtain ⟨eo,e15,H3⟩:=zab H3;apply fg;refine rkp [3,5,8,9,10,11] [] [.bool eo] (f3 hh c7 c11) ?_ ?_
      .exact ⟨gd (i7 (zr7 ax hx k ((gx (gx r.outs k_) i).mod) eo e15 ) (by first|rfl|simp only [c7,c11])),trivial⟩
      clear hh h;intro h hh;rcases isp H3 with ⟨c16,H3⟩|⟨c16,H3⟩;rotate_left
      .skip;rcases isp H3 with ⟨c17,H3⟩|⟨c17,H3⟩;rotate_left
       .skip;apply fg;refine rk [3,5,8,9,102] [] (f3 hh (zAb c16) (f3 (zAb c17) c7 c11)) fun h hh=>?_;rcases isb H3 with ⟨c18,H3⟩|⟨c18,H3⟩;rotate_left
        .skip;refine ct (f2 hh c18) ?_;apply fg;refine rk [6] [] (f3 hh c7 (f2 c11 c18)) fun h hh=>?_;cases H3;obtain rfl:=sinm H2;obtain rfl:=sinm H1;obtain rfl:=sinl H;exact rt hh
        refine cf (f2 hh c18) ?_;refine sk ?_;refine rk [3,5,8,9] [] (f3 hh c7 (f2 c11 c18)) fun h hh=>?_;exact rd m hh ⟨(fi.wrap (i+1)),H3,kq hh,rfl⟩
       apply fg;refine rk [3,5,8,9,102] [] (f3 hh (zAb c16) (f3 (zAa c17) c7 c11)) fun h hh=>?_;refine ct hh ?_;apply fg;refine rk [6] [] (f3 hh c7 c11) fun h hh=>?_;cases H3;obtain rfl:=sinm H2;obtain rfl:=sinm H1;obtain rfl:=sinl H;exact rt hh
      apply fg;refine rk [3,5,8,9,102] [] (f3 hh (zAa c16) (f2 c7 c11)) fun h hh=>?_;refine ct hh ?_;apply fg;refine rk [6] [] (f3 hh c7 c11) fun h hh=>?_;cases H3;obtain rfl:=sinm H2;obtain rfl:=sinm H1;obtain rfl:=sinl H;exact rt hh
     clear hh h;rintro h bs ⟨s_5,rfl,hh,rfl⟩;replace H2:=sinr H2;cases H2;exact ce hh ⟨_,rfl,kq hh,rfl⟩
    refine ct (f2 hh c11) ?_;apply fg;refine rk [6] [] (f3 hh c7 c11) fun h hh=>?_;cases H2;obtain rfl:=sinm H1;obtain rfl:=sinl H;exact rt hh
   clear hh h;rintro h bs ⟨s_3,rfl,hh,rfl⟩;replace H1:=sinr H1;refine rk [3,5,8] [] (f2 hh c7) fun h hh=>?_;exact rd m hh ⟨(fi.wrap (k_+1)),H1,kq hh,rfl⟩
  clear hh h;rintro h bs ⟨s_2,rfl,hh,rfl⟩;replace H:=sinr H;apply fg;refine rk [6] [] (f2 hh c7) fun h hh=>?_;cases H;exact rt hh
 refine ct (f2 hh c7) ?_;apply fg;refine rk [6] [] (f2 hh c7) fun h hh=>?_;cases H;exact rt hh
def zcu (k:Nat) (n:Net) (steps:Int) (t:List Rule):Nat->Int->Option ((Int×Int) ⊕ Unit)
 |0,_=>none
 |m+1,k_=>(if k_<(t.length:Int) then (if 0<=k_/\k_<(t.length:Int) then ((zjn k n steps (gx t k_)).bind fun ep=>(if ep=true then (if 0<k_ then (if (0:Int)<=(fi.wrap (k_ - 1))/\(fi.wrap (k_ - 1))<(t.length:Int) then (if ((gx t (fi.wrap (k_ - 1))).prio)<=((gx t k_).prio) then some (.inl (k_,1)) else zcu k n steps t m (fi.wrap (k_+1))) else none) else zcu k n steps t m (fi.wrap (k_+1))) else some (.inl (k_,1)))) else none) else some (.inr ()))
def zjg (k:Nat) (n:Net) (steps:Int) (t:List Rule):Option (Int×Int):=(((if steps<0 then some true else some (decide (1000<steps))):Option Bool).bind fun s_=>(if s_=true then some (0,1) else (if 4000<(t.length:Int) then some (0,2) else ((zcu k n steps t k 0:Option ((Int×Int) ⊕ Unit)).bind fun o=>ks (fun r=>some r) (fun s_2=>some (0,0)) o))))
theorem zpc (ax:Axs) (hx:NoAx ax) (k:Nat) (n:Net) (steps:Int) (t:List Rule) (v:Int×Int) (H:zjg k n steps t=some v):Pure Try.prog (EE ax) [] 15 [eNet n,.int .i64 steps,zae t] (tupT [.int .i64 v.1,.int .i64 v.2]):=by
 rw [zjg] at H;refine enN [.tmp 6,.tmp 7] 53 [0,1,2] (hx.no _ (by decide)) (fn15 ax) ?_;intro h hh;apply fg;refine rk [1,2,3] [] hh fun h hh=>?_;obtain ⟨s_,H1,H⟩:=zab H;repeat apply fg
 refine cu [1,2,3,15] 1 (fun h bs=>(h 1=.int .i64 steps/\h 2=zae t/\h 3=.ptr 0 0 3/\h 15=.bool s_)/\bs=[.cells true 3 [zgd n.nodes,zge n.links,zgf n.edges]]) ?_ ?_
 .skip;rcases isp H1 with ⟨c1,H1⟩|⟨c1,H1⟩;rotate_left
  .skip;refine rk [1,2,3,15] [] (f2 hh (zAb c1)) fun h hh=>?_;cases H1;exact ce hh ⟨kq hh,rfl⟩
  refine rk [1,2,3,15] [] (f2 hh (zAa c1)) fun h hh=>?_;cases H1;exact ce hh ⟨kq hh,rfl⟩
 clear hh h;rintro h bs ⟨hh,rfl⟩;rcases isb H with ⟨c2,H⟩|⟨c2,H⟩;rotate_left
 .skip;refine cf (f2 hh c2) ?_;refine sk ?_;repeat apply fg
  refine rk [1,2,3,18] [] (f2 hh c2) fun h hh=>?_;rcases isp H with ⟨c3,H⟩|⟨c3,H⟩;rotate_left
  .skip;refine cf (f2 hh (zAb c3)) ?_;refine sk ?_;repeat apply fg
   refine rk [1,2,3,8] [] (f2 hh c2) fun h hh=>?_;obtain ⟨o,H1,H⟩:=zab H;refine cu [] 1 (fun h bs=>∃ s_2:Unit,o=.inr s_2/\(True)/\bs=[.cells true 3 [zgd n.nodes,zge n.links,zgf n.edges]]) ?_ ?_
   .skip;apply gl;refine jj [1,2,3,8] (fun m h bs=>∃ (k_:Int),zcu k n steps t m k_=some o/\(h 1=.int .i64 steps/\h 2=zae t/\h 3=.ptr 0 0 3/\h 8=.int .i64 k_)/\bs=[.cells true 3 [zgd n.nodes,zge n.links,zgf n.edges]]) ?_ k _ _ ?_;rotate_left
    .exact ⟨0,H1,kq hh,rfl⟩
    clear hh h H1;rintro m h bs ⟨k_,H1,hh,rfl⟩;rcases m with _|m
    .rw [zcu] at H1;cases H1
    rw [zcu] at H1;repeat apply fg
    refine rk [1,2,3,8,22] [] (f2 hh c2) fun h hh=>?_;rcases isp H1 with ⟨c4,H1⟩|⟨c4,H1⟩;rotate_left
    .skip;refine cf (f2 hh (zAb c4)) ?_;refine xk ?_;cases H1;exact ce hh ⟨_,rfl,kq hh,rfl⟩
    refine ct (f2 hh (zAa c4)) ?_;refine sk ?_;apply fg;apply gl;obtain ⟨g5,H1⟩:=isg H1;obtain ⟨ep,e6,H1⟩:=zab H1;apply fg;refine dk 6 [1,2,3,8,9] [] [] [(.bool ep,stL [.cells true 3 [zgd n.nodes,zge n.links,zgf n.edges]])] (f3 hh c2 (zag g5)) trivial ?_ ?_
    .exact ⟨gd (i7 (zvp ax hx k n steps (gx t k_) ep e6 ) (by first|rfl|simp only [c2])),trivial⟩
    clear hh h;intro h hh;rcases isb H1 with ⟨c7,H1⟩|⟨c7,H1⟩;rotate_left
    .skip;apply fg;refine dk 17 [1,2,3,8,51] [] [] [] (f3 hh c7 c2) trivial trivial fun h hh=>?_;refine ct hh ?_;apply fg;refine rk [6,7] [] (f3 hh c2 c7) fun h hh=>?_;cases H1;obtain rfl:=sinl H;exact rt hh
    rcases isp H1 with ⟨c8,H1⟩|⟨c8,H1⟩;rotate_left
    .skip;apply fg;refine dk 17 [1,2,3,8,51] [] [] [] (f3 hh c7 (f2 (zAb c8) c2)) trivial trivial fun h hh=>?_;refine cf hh ?_;refine sk ?_;refine rk [1,2,3,8] [] (f3 hh c2 c7) fun h hh=>?_;exact rd m hh ⟨(fi.wrap (k_+1)),H1,kq hh,rfl⟩
    obtain ⟨g9,H1⟩:=isg H1;apply fg;refine dk 17 [1,2,3,8,51] [] [] [] (f3 hh c7 (f3 (zAa c8) c2 (f2 (zag g5) (zag g9)))) trivial trivial fun h hh=>?_;rcases isp H1 with ⟨c10,H1⟩|⟨c10,H1⟩;rotate_left
    .skip;refine cf (f2 hh (zAb c10)) ?_;refine sk ?_;refine rk [1,2,3,8] [] (f3 hh c2 c7) fun h hh=>?_;exact rd m hh ⟨(fi.wrap (k_+1)),H1,kq hh,rfl⟩
    refine ct (f2 hh (zAa c10)) ?_;apply fg;refine rk [6,7] [] (f3 hh c2 c7) fun h hh=>?_;cases H1;obtain rfl:=sinl H;exact rt hh
   clear hh h;rintro h bs ⟨s_2,rfl,hh,rfl⟩;replace H:=sinr H;apply fg;refine rk [6,7] [] (f2 hh c2) fun h hh=>?_;cases H;exact rt hh
  refine ct (f2 hh (zAa c3)) ?_;apply fg;refine rk [6,7] [] (f2 hh c2) fun h hh=>?_;cases H;exact rt hh
 refine ct (f2 hh c2) ?_;apply fg;refine rk [6,7] [] (f2 hh c2) fun h hh=>?_;cases H;exact rt hh
theorem gxA {n:Nat} (a:Ar n) {i:Nat} (h:i<n):gx a.l (i:Int)=a.l[i]'(by rw [a.h];exact h):=zd8 (by rw [a.h];exact h)
theorem yos {n:Nat} (a:Ar n) (q:Int->Bool):((kg n).all fun j=>q (gx a.l (j:Int)))=a.l.all q:=by
  rw [ku,ib,zvd];constructor
  . intro h j hj;have:=h j (k9.2 (by rw [a.h] at hj;exact hj))
    rwa [zd8 hj] at this
  . intro h j hj;have hj':j<a.l.length:=by rw [a.h];exact k9.1 hj
    rw [zd8 hj'];exact h j hj'
theorem z2q {α:Type} [DecidableEq α] (a b:List α) (h:a.length=b.length):((kg a.length).all fun j=>decide (a[j]?=b[j]?))=decide (a=b):=by
  rw [ku,ib,decide_eq_true_eq];constructor
  . intro hh;apply List.ext_getElem?;intro i;by_cases hi:i<a.length
    . have:=hh i (k9.2 hi);simpa using this
    . rw [jw (by omega),jw (by omega)]
  . rintro rfl j _;simp
theorem lt10 {a:Nat} (h:a<10):(a:Int)<10:=by omega
theorem zaq {a b:Nat} (h:a<b):(a:Int)<(b:Int):=by omega
theorem zo5 {k:Nat} (a b:List (List Alt)) (f:(List Alt)->(List Alt)->Option Bool) (hf:∀ x,x∈a->∀ y,y∈b->f x y=some (decide (x=y))) (hl:a.length<big) (hk:a.length<k):zci k a b f=some (decide (a=b)):=by
  unfold zci;by_cases hlen:a.length=b.length
  . rw [zAd (by omega),zir (L:=zay k a b f) a.length false (fun j=>decide (a[j]?=b[j]?)) hl (fun m j h=>by
      have h2:j<b.length:=by omega
      rw [zay,zAc (zaq h),zAc ⟨by omega,zaq h⟩,zAc ⟨by omega,zaq h2⟩,zd8 h,zd8 h2];rw [hf _ (ju h) _ (ju h2),ff,fk h,fk h2]
      simp only [fe]) (fun m=>by rw [zay,zAd (by omega)]) hk,z2q a b hlen,ff]
    cases decide (a=b)<;>rfl
  . rw [zAc (by omega)];congr 1;exact (zAb fun h=>hlen (by rw [h])).symm
theorem zv2 {k:Nat} (a b:List Alt) (hl:a.length<big) (hk:a.length<k):zef k a b=some (decide (a=b)):=by
  unfold zef;by_cases hlen:a.length=b.length
  . rw [zAd (by omega),zir (L:=zba k a b) a.length false (fun j=>decide (a[j]?=b[j]?)) hl (fun m j h=>by
      have h2:j<b.length:=by omega
      rw [zba,zAc (zaq h),zAc ⟨by omega,zaq h⟩,zAc ⟨by omega,zaq h2⟩,zd8 h,zd8 h2,fk h,fk h2]
      simp only [fe,decide_eq_true_eq]) (fun m=>by rw [zba,zAd (by omega)]) hk,z2q a b hlen,ff]
    cases decide (a=b)<;>rfl
  . rw [zAc (by omega)];congr 1;exact (zAb fun h=>hlen (by rw [h])).symm
/-! patterns -/
def zwy (x:Int):Bool:=decide (0<=x/\x<=65535)
def zac (h:Ar 10):Bool:=h.l.all zwy
def zyp (p:Pat):Bool:=(kg 10).all fun i=>decide (iAnd .i64 (gx p.bits.l (i:Int)) (gx p.mask.l (i:Int))=gx p.bits.l (i:Int))
def zaf (p:Pat):Bool:=zac p.mask && (zac p.bits && zyp p)
theorem z9d {x:Int} (h:zwy x=true):∃ n:Nat,x=(n:Int)/\n<65536:=by
  have:=zAe h;exact ⟨x.toNat,by omega,by omega⟩
theorem zy9 {h:Ar 10} (hr:zac h=true) {i:Nat} (hi:i<10):∃ n:Nat,gx h.l (i:Int)=(n:Int)/\n<65536:=by
  rw [gxA h hi];exact z9d (ib.1 hr _ (ju _))
theorem zpp {k:Nat} (h:Ar 10) (hk:10<k):zfd k h=some (zac h):=by
  unfold zfd
  rw [zir (L:=zby k h) 10 false (fun i=>zwy (gx h.l (i:Int))) (by decide) (fun m j hj=>by
    rw [zby,zAc (lt10 hj),zAc ⟨by omega,lt10 hj⟩];unfold zwy;by_cases c1:gx h.l (j:Int)<0
    . rw [zAc c1,zAd (by rw [decide_eq_true_eq];omega)]
    . rw [zAd c1];by_cases c2:65535<gx h.l (j:Int)
      . rw [zAc c2,zAd (by rw [decide_eq_true_eq];omega)]
      . rw [zAd c2,zAc (by rw [decide_eq_true_eq];omega)]) (fun m=>by rw [zby];exact zAd (by decide)) hk,ff,yos]
  unfold zac;cases h.l.all zwy<;>rfl
theorem z9h {k:Nat} (p:Pat) (hk:10<k):zjo k p.bits p.mask=some (zyp p):=by
  unfold zjo zyp
  rw [zir (L:=zdb k p.bits p.mask) 10 false (fun i=>decide (iAnd .i64 (gx p.bits.l (i:Int)) (gx p.mask.l (i:Int))=gx p.bits.l (i:Int))) (by decide) (fun m j hj=>by
    rw [zdb,zAc (lt10 hj),zAc ⟨by omega,lt10 hj⟩];by_cases c:iAnd .i64 (gx p.bits.l (j:Int)) (gx p.mask.l (j:Int))=gx p.bits.l (j:Int)
    . rw [zAd (fun h=>h c),zAc (zAa c)]
    . rw [zAc c,zAd (by rw [decide_eq_true_eq];exact c)]) (fun m=>by rw [zdb];exact zAd (by decide)) hk,ff]
  cases (kg 10).all _<;>rfl
theorem ztv {k:Nat} (p:Pat) (hk:10<k):zh6 k p=some (zaf p):=by
  unfold zh6 zaf
  rw [zpp _ hk,zpp _ hk,ff,ff,z9h p hk];cases zac p.mask<;>cases zac p.bits<;>rfl
theorem z1b {k:Nat} (p:Pat) (hk:10<k):zhl k p=some (zaf p):=by
  unfold zhl;rw [ztv _ hk];rfl
/-! rules and tables -/
def ziq (r:Rule):Prop:=r.outs.length<big/\∀ l,l∈r.outs->l.length<big
def zko (t:List Rule):Prop:=t.length<big/\∀ r,r∈t->ziq r
theorem zs6 {k:Nat} (a b:Rule) (ha:ziq a) (hk:big<=k):zg9 k a b=some (decide (a.step=b.step/\a.outs=b.outs)):=by
  unfold zg9;rw [zo5 a.outs b.outs _ (fun x hx y hy=>by unfold zgq;rw [zv2 x y (ha.2 x hx) (gr (ha.2 x hx) hk)];rfl) ha.1 (gr ha.1 hk)];by_cases c:a.step=b.step
  . rw [zAc c];simp [c]
  . rw [zAd c];simp [c]
theorem zvm {k:Nat} (a b:Rule) (ha:ziq a) (hk:big<=k):zdh k a b=some (decide (a=b)):=by
  unfold zdh;rw [zs6 a b ha hk];obtain ⟨p,m,s,o⟩:=a;obtain ⟨p2,m2,s2,o2⟩:=b;simp only [Rule.mk.injEq];by_cases c1:p=p2
  . rw [zAc c1];by_cases c2:m=m2
    . rw [zAc c2];simp [c1,c2]
    . rw [zAd c2];simp [c2]
  . rw [zAd c1];simp [c1]
theorem z07 {k:Nat} (a b:Rule) (ha:ziq a) (hk:big<=k):zhi k a b=some (decide (a.outs=b.outs)):=by
  unfold zhi;by_cases hlen:a.outs.length=b.outs.length
  . rw [zAd (by omega),zir (L:=zcc k a b) a.outs.length false (fun j=>decide (a.outs[j]?=b.outs[j]?)) ha.1 (fun m j h=>by
      have h2:j<b.outs.length:=by omega
      rw [zcc,zAc (zaq h),zAc ⟨by omega,zaq h⟩,zAc ⟨by omega,zaq h2⟩,zd8 h,zd8 h2];have hx:=ha.2 _ (ju h);rw [fk h,fk h2];by_cases hl2:a.outs[j].length=b.outs[j].length
      . rw [zAd (by omega),zir (L:=zcb k a b (j:Int)) a.outs[j].length false (fun i=>decide (a.outs[j][i]?=b.outs[j][i]?)) hx (fun m i hi=>by
          have hi2:i<b.outs[j].length:=by omega
          rw [zcb,zd8 h,zd8 h2,zAc (zaq hi),zAc ⟨by omega,zaq hi⟩,zAc ⟨by omega,zaq hi2⟩,zd8 hi,zd8 hi2,fk hi,fk hi2]
          simp only [fe,decide_eq_true_eq]) (fun m=>by rw [zcb,zd8 h,zAd (by omega)]) (gr hx hk),z2q _ _ hl2,ff]
        by_cases c:a.outs[j]=b.outs[j]
        . rw [zAa c,zAa (congrArg some c)];rfl
        . rw [zAb c,zAb (fun h=>c (Option.some.inj h))];rfl
      . rw [zAc (by omega),zAb (fun h=>hl2 (by rw [Option.some.inj h]))];rfl) (fun m=>by rw [zcc,zAd (by omega)]) (gr ha.1 hk),z2q _ _ hlen,ff]
    cases decide (a.outs=b.outs)<;>rfl
  . rw [zAc (by omega)];congr 1;exact (zAb fun h=>hlen (by rw [h])).symm
theorem z09 {k:Nat} (a b:Rule) (ha:ziq a) (hk:big<=k):zje k a b=some (decide (a.step=b.step/\a.outs=b.outs)):=by
  unfold zje;rw [z07 a b ha hk];by_cases c:a.step=b.step
  . rw [zAc c];simp [c]
  . rw [zAd c];simp [c]
theorem zrq {k:Nat} (a b:Rule) (ha:ziq a) (hk:big<=k):zf9 k a b=some (decide (a=b)):=by
  unfold zf9;rw [z09 a b ha hk];obtain ⟨p,m,s,o⟩:=a;obtain ⟨p2,m2,s2,o2⟩:=b;simp only [Rule.mk.injEq];by_cases c1:p=p2
  . rw [zAc c1];by_cases c2:m=m2
    . rw [zAc c2];simp [c1,c2]
    . rw [zAd c2];simp [c2]
  . rw [zAd c1];simp [c1]
theorem z6n {k:Nat} (t u:List Rule) (ht:zko t) (hk:big<=k):zk4 k t u=some (decide (t=u)):=by
  unfold zk4;by_cases hlen:t.length=u.length
  . rw [zAd (by omega),zir (L:=zel k t u) t.length false (fun j=>decide (t[j]?=u[j]?)) ht.1 (fun m j h=>by
      have h2:j<u.length:=by omega
      rw [zel,zAc (zaq h),zAc ⟨by omega,zaq h⟩,zAc ⟨by omega,zaq h2⟩,zd8 h,zd8 h2,zrq _ _ (ht.2 _ (ju h)) hk,ff,fk h,fk h2]
      simp only [fe]) (fun m=>by rw [zel,zAd (by omega)]) (gr ht.1 hk),z2q t u hlen,ff]
    cases decide (t=u)<;>rfl
  . rw [zAc (by omega)];congr 1;exact (zAb fun h=>hlen (by rw [h])).symm
def fAlt (n:Net) (a:Alt):Bool:=decide (-1<=a.link/\a.link<n.links.length) && zaf a.mod
def fOut (n:Net) (l:List Alt):Bool:=decide (1<=l.length/\l.length<=8) && l.all (fAlt n)
def formed (n:Net) (steps:Int) (r:Rule):Bool:=decide (1<=r.prio/\r.prio<=65535) && (zaf r.mat && (decide (-1<=r.step/\r.step<steps/\r.outs.length<=16) && r.outs.all (fOut n)))
theorem z9g {k:Nat} (n:Net) (steps:Int) (r:Rule) (hr:ziq r) (hk:big<=k):zjn k n steps r=some (formed n steps r):=by
  have hk10:10<k:=gr (by decide) hk;unfold zjn formed;rw [ztv _ hk10,ff]
  have hloop:zda k n r k 0=some (if r.outs.all (fOut n)=true then .inr () else .inl false):=by
    refine zpx r.outs false (fOut n) hr.1 (fun m j h=>?_) (fun m=>by rw [zda,zAd (by omega)]) (gr hr.1 hk);have hx:=hr.2 _ (ju h);rw [zda,zAc (zaq h),zAc ⟨by omega,zaq h⟩,zd8 h];unfold fOut;by_cases c1:(r.outs[j].length:Int)<1
    . rw [zAc c1,zAb (by omega)];rfl
    . rw [zAd c1,ff];by_cases c2:8<(r.outs[j].length:Int)
      . rw [zAa c2,zAb (by omega)];rfl
      . rw [zAb c2,zAa (by omega)];simp only [qt,if_false,jy]
        rw [zpx (L:=zc9 k n r (j:Int)) r.outs[j] false (fAlt n) hx (fun m i hi=>by
          rw [zc9,zAc ⟨by omega,zaq h⟩,zd8 h,zAc (zaq hi),zAc ⟨by omega,zaq hi⟩,zd8 hi,z1b _ hk10,ff];unfold fAlt;by_cases d1:r.outs[j][i].link < -1
          . rw [zAc d1,zAb (by omega)];rfl
          . rw [zAd d1];by_cases d2:(n.links.length:Int)<=r.outs[j][i].link
            . rw [zAc d2,zAb (by omega)];rfl
            . rw [zAd d2,zAa (by omega)];rfl) (fun m=>by rw [zc9,zAc ⟨by omega,zaq h⟩,zd8 h,zAd (by omega)]) (gr hx hk),ff]
        cases r.outs[j].all (fAlt n)<;>rfl
  rw [hloop];by_cases c1:r.prio<1
  . rw [zAc c1,zAb (by omega)];rfl
  . rw [zAd c1];by_cases c2:65535<r.prio
    . rw [zAc c2,zAb (by omega)];rfl
    . rw [zAd c2,zAa (show 1<=r.prio/\r.prio<=65535 by omega)]
      cases zaf r.mat with
      |false=>rfl
      |true =>
        simp only [if_true,jy];by_cases c3:r.step < -1
        . rw [zAc c3,zAb (by omega)];rfl
        . rw [zAd c3];by_cases c4:steps<=r.step
          . rw [zAc c4,zAb (by omega)];rfl
          . rw [zAd c4,ff];by_cases c5:16<(r.outs.length:Int)
            . rw [zAa c5,zAb (by omega)];rfl
            . rw [zAb c5,zAa (by omega)];simp only [qt,if_false,jy];cases r.outs.all (fOut n)<;>rfl
theorem zch {α:Type} [Inhabited α] {l:List α} {i:Nat} (h:i<l.length):l.getD i default∈l:=by
  rw [fo,fk h];exact ju h
def zm8 (n:Net) (k:Int):Prop:=0<=k/\k<(n.nodes.length:Int)
instance (n:Net) (k:Int):Decidable (zm8 n k):=by unfold zm8;infer_instance
structure RightNet (n:Net):Prop where
  nodes:n.nodes.length<=10
  links:n.links.length<=24
  frm:∀ k,k<n.links.length->0<=(n.links.getD k default).frm/\(n.links.getD k default).frm<(n.nodes.length:Int)
  to:∀ k,k<n.links.length->0<=(n.links.getD k default).to/\(n.links.getD k default).to<(n.nodes.length:Int)
  apart:∀ k,k<n.links.length->(n.links.getD k default).frm≠(n.links.getD k default).to
  cap:∀ k,k<n.links.length->0<=(n.links.getD k default).cap/\(n.links.getD k default).cap<=1048576
theorem ymw (k:Nat) (s:ByteArray) (hs:s.size<9223372036854775808):∀ (m i:Nat),i<=s.size->s.size - i<m->∃ r,zem k s m (i:Int)=some r:=by
  intro m
  induction m with
  |zero=>intro i h1 h2;omega
  |succ m ih =>
    intro i h1 h2;rw [zem];by_cases c:(i:Int)<(s.size:Int)
    . obtain ⟨r,hr⟩:=ih (i+1) (by omega) (by omega);have g:(0:Int)<=(i:Int)/\(i:Int)<(s.size:Int):=⟨by omega,c⟩
      have A1:∃ b,(if (0:Int)<=(i:Int)/\(i:Int)<(s.size:Int) then (if 97<=((bx s (i:Int)).toNat:Int) then some (decide (((bx s (i:Int)).toNat:Int)<=122)) else some false) else none)=some b:=by
        rw [zAc g];split<;>exact ⟨_,rfl⟩
      have A2:∃ b,(if (0:Int)<=(i:Int)/\(i:Int)<(s.size:Int) then (if 48<=((bx s (i:Int)).toNat:Int) then (if ((bx s (i:Int)).toNat:Int)<=57 then some true else some (decide (((bx s (i:Int)).toNat:Int)=95))) else some (decide (((bx s (i:Int)).toNat:Int)=95))) else none)=some b:=by
        rw [zAc g];split
        . split<;>exact ⟨_,rfl⟩
        . exact ⟨_,rfl⟩
      obtain ⟨b1,h1⟩:=A1;obtain ⟨b2,h2⟩:=A2;rw [zAc c,h1,h2,za4 i (by omega),hr];simp only [ff]
      (repeat' split)<;>exact ⟨_,rfl⟩
    . rw [zAd c];exact ⟨_,rfl⟩
theorem yhq {k:Nat} (hk:9223372036854775808<=k) (s:ByteArray) (hs:s.size<9223372036854775808):∃ r,zmr k s=some r:=by
  obtain ⟨r,h⟩:=ymw k s hs k 0 (by omega) (by omega);rw [show ((0:Nat):Int)=0 from rfl] at h;unfold zmr;rw [h,ff]
  cases r with
  |inl b=>exact ⟨_,rfl⟩
  |inr u=>simp only [Sum.elim_inr];split<;>exact ⟨_,rfl⟩
theorem ygk (k:Nat) (l:List ByteArray) (e:Nat) (he:e<l.length) (hl:l.length<9223372036854775808):∀ (m i:Nat),i<=e->e - i<m->∃ r,zev k l (e:Int) m (i:Int)=some r:=by
  intro m
  induction m with
  |zero=>intro i h1 h2;omega
  |succ m ih =>
    intro i h1 h2;rw [zev];by_cases c:(i:Int)<(e:Int)
    . obtain ⟨r,hr⟩:=ih (i+1) (by omega) (by omega);rw [zAc c,zAc ⟨by omega,by omega⟩,za4 i (by omega),hr];split<;>exact ⟨_,rfl⟩
    . rw [zAd c];exact ⟨_,rfl⟩
theorem ygl {k:Nat} (hk:9223372036854775808<=k) (l:List ByteArray) (hl:l.length<9223372036854775808) (hs:∀ s,s∈l->s.size<9223372036854775808):∀ (m i:Nat),i<=l.length->l.length - i<m->∃ r,zew k l m (i:Int)=some r:=by
  intro m
  induction m with
  |zero=>intro i h1 h2;omega
  |succ m ih =>
    intro i h1 h2;rw [zew];by_cases c:(i:Int)<(l.length:Int)
    . have hi:i<l.length:=by omega
      obtain ⟨r,hr⟩:=ih (i+1) (by omega) (by omega);obtain ⟨b,hb⟩:=yhq hk (l.getD i default) (hs _ (zch hi));obtain ⟨r1,h1⟩:=ygk k l i hi hl k 0 (by omega) (by omega);rw [show ((0:Nat):Int)=0 from rfl] at h1;rw [zAc c,zAc ⟨by omega,c⟩,za4 i (by omega),ziu l i,hb,h1,hr]
      cases b with
      |false=>exact ⟨_,rfl⟩
      |true=>cases r1<;>exact ⟨_,rfl⟩
    . rw [zAd c];exact ⟨_,rfl⟩
theorem z1v {k:Nat} (hk:9223372036854775808<=k) (l:List ByteArray) (hl:l.length<9223372036854775808) (hs:∀ s,s∈l->s.size<9223372036854775808):∃ r,zjh k l=some r:=by
  obtain ⟨r,h⟩:=ygl hk l hl hs k 0 (by omega) (by omega);rw [show ((0:Nat):Int)=0 from rfl] at h;unfold zjh;rw [h,ff];cases r<;>exact ⟨_,rfl⟩
theorem yhp (k:Nat) (n:Net) (hn:n.nodes.length<=1000) (hs:∀ x,x∈n.nodes->x.name.size<9223372036854775808):∀ (m i:Nat) (l:List ByteArray),i<=n.nodes.length->n.nodes.length - i<m->l.length=i->(∀ s,s∈l->s.size<9223372036854775808) ->
    ∃ l',zey k n m (i:Int) l i=some (l',l'.length)/\l'.length=n.nodes.length/\∀ s,s∈l'->s.size<9223372036854775808:=by
  intro m
  induction m with
  |zero=>intro i l h1 h2;omega
  |succ m ih =>
    intro i l h1 h2 h3 h4;rw [zey];by_cases c:(i:Int)<(n.nodes.length:Int)
    . have hi:i<n.nodes.length:=by omega
      rw [zAc c,zAc ⟨by omega,c⟩,zAc (by omega),za4 i (by omega),ziu n.nodes i];refine ih (i+1) _ (by omega) (by omega) (by simp [h3]) fun s hm=>?_;rcases io.1 hm with q|q
      . exact h4 s q
      . simp only [gu] at q;subst q;exact hs _ (zch hi)
    . rw [zAd c];exact ⟨l,by rw [h3],by omega,h4⟩
theorem yho (k:Nat) (n:Net) (hn:n.edges.length<=1000) (hs:∀ x,x∈n.edges->x.name.size<9223372036854775808):∀ (m i:Nat) (l:List ByteArray),i<=n.edges.length->n.edges.length - i<m->l.length=i->(∀ s,s∈l->s.size<9223372036854775808) ->
    ∃ l',zex k n m (i:Int) l i=some (l',l'.length)/\l'.length=n.edges.length/\∀ s,s∈l'->s.size<9223372036854775808:=by
  intro m
  induction m with
  |zero=>intro i l h1 h2;omega
  |succ m ih =>
    intro i l h1 h2 h3 h4;rw [zex];by_cases c:(i:Int)<(n.edges.length:Int)
    . have hi:i<n.edges.length:=by omega
      rw [zAc c,zAc ⟨by omega,c⟩,zAc (by omega),za4 i (by omega),ziu n.edges i];refine ih (i+1) _ (by omega) (by omega) (by simp [h3]) fun s hm=>?_;rcases io.1 hm with q|q
      . exact h4 s q
      . simp only [gu] at q;subst q;exact hs _ (zch hi)
    . rw [zAd c];exact ⟨l,by rw [h3],by omega,h4⟩
theorem zm9 {k:Nat} {n:Net} (v:Int):zg0 k n v=some (decide (zm8 n v)):=by
  unfold zg0 zm8;by_cases h:0<=v
  . rw [zAc h];simp [h]
  . rw [zAd h];simp [h]
theorem yo4 (k:Nat) (n:Net) (hn:n.nodes.length<=1000):∀ (m i:Nat),i<=n.nodes.length->n.nodes.length - i<m->∃ r,ze1 k n m (i:Int)=some r/\(r=.inr ()\/r=.inl 1):=by
  intro m
  induction m with
  |zero=>intro i h1 h2;omega
  |succ m ih =>
    intro i h1 h2;rw [ze1];by_cases c:(i:Int)<(n.nodes.length:Int)
    . obtain ⟨r,hr,hq⟩:=ih (i+1) (by omega) (by omega);rw [zAc c,zAc ⟨by omega,c⟩,za4 i (by omega),hr]
      (repeat' split)<;>first|exact ⟨_,rfl,.inr rfl⟩|exact ⟨_,rfl,hq⟩
    . rw [zAd c];exact ⟨_,rfl,.inl rfl⟩
def yk0 (n:Net) (l:Link):Prop:=zm8 n l.frm/\zm8 n l.to/\l.frm≠l.to/\0<=l.cap/\l.cap<=1048576
theorem yo3 (k:Nat) (n:Net) (hn:n.links.length<=10000):∀ (m i:Nat),i<=n.links.length->n.links.length - i<m->(∀ j,j<i->yk0 n (n.links.getD j default))->∃ r,ze0 k n m (i:Int)=some r/\((r=.inr ()/\∀ j,j<n.links.length->yk0 n (n.links.getD j default))\/r=.inl 1):=by
  intro m
  induction m with
  |zero=>intro i h1 h2;omega
  |succ m ih =>
    intro i h1 h2 h3;rw [ze0];by_cases c:(i:Int)<(n.links.length:Int)
    . have hi:i<n.links.length:=by omega
      rw [zAc c,zAc ⟨by omega,c⟩,za4 i (by omega),ziu n.links i,zm9,zm9,ff,ff];by_cases q1:zm8 n (n.links.getD i default).frm
      . rw [zAc (zAa q1)];by_cases q2:zm8 n (n.links.getD i default).to
        . rw [zAc (zAa q2)];by_cases q3:(n.links.getD i default).frm=(n.links.getD i default).to
          . rw [zAc q3];exact ⟨_,rfl,.inr rfl⟩
          . rw [zAd q3];by_cases q4:(n.links.getD i default).cap<0
            . rw [zAc q4];exact ⟨_,rfl,.inr rfl⟩
            . rw [zAd q4];by_cases q5:1048576<(n.links.getD i default).cap
              . rw [zAc q5];exact ⟨_,rfl,.inr rfl⟩
              . rw [zAd q5];exact ih (i+1) (by omega) (by omega) fun j hj=>by rcases Nat.lt_succ_iff_lt_or_eq.1 hj with q|q;exact h3 j q;rw [q];exact ⟨q1,q2,q3,by omega,by omega⟩
        . rw [zAd (by simpa using q2)];exact ⟨_,rfl,.inr rfl⟩
      . rw [zAd (by simpa using q1)];exact ⟨_,rfl,.inr rfl⟩
    . rw [zAd c];exact ⟨_,rfl,.inl ⟨rfl,fun j hj=>h3 j (by omega)⟩⟩
theorem yo2 (k:Nat) (n:Net) (hn:n.edges.length<=1000):∀ (m i:Nat),i<=n.edges.length->n.edges.length - i<m->∃ r,zez k n m (i:Int)=some r/\(r=.inr ()\/r=.inl 1):=by
  intro m
  induction m with
  |zero=>intro i h1 h2;omega
  |succ m ih =>
    intro i h1 h2;rw [zez];by_cases c:(i:Int)<(n.edges.length:Int)
    . obtain ⟨r,hr,hq⟩:=ih (i+1) (by omega) (by omega);rw [zAc c,zAc ⟨by omega,c⟩,za4 i (by omega),hr,zm9,ff];split
      . exact ⟨_,rfl,hq⟩
      . exact ⟨_,rfl,.inr rfl⟩
    . rw [zAd c];exact ⟨_,rfl,.inl rfl⟩
structure Held (n:Net):Prop where
  nodes:∀ x,x∈n.nodes->x.name.size<9223372036854775808
  edges:∀ x,x∈n.edges->x.name.size<9223372036854775808
def ydi (t:List Rule) (j:Int):Int:=if j=0 then 65536 else (gx t (j - 1)).prio
def znf (n:Net) (steps:Int) (t:List Rule) (j:Nat):Bool:=formed n steps (t.getD j default) && decide ((t.getD j default).prio<ydi t j)
def znl (n:Net) (steps:Int) (t:List Rule):Int×Int :=
  if steps<0\/1000<steps then (0,1) else if 4000<t.length then (0,2) else
  match (kg t.length).findSome? (fun j=>if znf n steps t j=true then none else some ((j:Int),(1:Int))) with
  |some r=>r
  |none=>(0,0)
theorem z1a {k:Nat} (n:Net) (steps:Int) (t:List Rule) (ht:zko t) (hk:big<=k):zjg k n steps t=some (znl n steps t):=by
  unfold zjg znl
  have hloop:zcu k n steps t k 0=some (sumO ((kg t.length).findSome? (fun j=>if znf n steps t j=true then none else some ((j:Int),(1:Int))))):=by
    refine zq0 (L:=zcu k n steps t) t.length _ ht.1 (fun m j h=>?_) (fun m=>by rw [zcu,zAd (by omega)]) (gr ht.1 hk);have hb:j<9223372036854775808:=by have:=ht.1;simp only [big] at this;omega
    rw [zcu,zAc (zaq h),zAc ⟨by omega,zaq h⟩,zd8 h,z9g n steps _ (ht.2 _ (ju h)) hk,ff]
    have hg:znf n steps t j=(formed n steps t[j] && decide (t[j].prio<ydi t j)):=by
      unfold znf;rw [fo,fk h];rfl
    rw [hg]
    cases hf:formed n steps t[j] with
    |false=>rfl
    |true =>
      simp only [if_true,jy,decide_eq_true_eq];unfold ydi;by_cases c0:0<(j:Int)
      . have e1:fi.wrap ((j:Int) - 1)=((j - 1:Nat):Int):=by rw [wr64 (by omega)];omega
        have e2:(j:Int) - 1=((j - 1:Nat):Int):=by omega
        have h2:j - 1<t.length:=by omega
        rw [zAc c0,e1,zAc ⟨by omega,by omega⟩,zAd (show ¬ (j:Int)=0 by omega),e2,zd8 h2];by_cases c:t[j - 1].prio<=t[j].prio
        . rw [zAc c,zAd (by omega)]
        . rw [zAd c,zAc (by omega)]
      . have hp:t[j].prio<=65535:=by
          unfold formed at hf;simp only [fj,decide_eq_true_eq] at hf;exact hf.1.2
        rw [zAd c0,zAc (show (j:Int)=0 by omega),zAc (by omega)]
  rw [hloop];by_cases c1:steps<0
  . rw [zAc c1,zAc (show steps<0\/1000<steps from .inl c1)];rfl
  . rw [zAd c1];by_cases c2:1000<steps
    . rw [zAa c2,zAc (show steps<0\/1000<steps from .inr c2)];rfl
    . rw [zAb c2,zAd (show ¬ (steps<0\/1000<steps) by omega),ff];simp only [qt,if_false];by_cases c3:4000<t.length
      . rw [zAc (by omega),zAc c3]
      . rw [zAd (by omega),zAd c3,ff];cases (kg t.length).findSome? _<;>rfl
def fewT (t:List Rule) (most:Int):Bool:=t.all (fun r=>decide (r.outs.length<=20) && r.outs.all fun l=>decide (l.length<=10)) && decide ((t.length:Int)<=most)
theorem ylh {k:Nat} (t:List Rule) (most:Int) (ht:zko t) (hk:big<=k):zpb k t most=some (fewT t most):=by
  unfold zpb fewT
  rw [zpx (L:=zfn k t) t false (fun r=>decide (r.outs.length<=20) && r.outs.all fun l=>decide (l.length<=10)) ht.1 (fun m j h=>by
    rw [zfn,zAc (zaq h),zAc ⟨by omega,zaq h⟩,zd8 h];by_cases c:20<(t[j].outs.length:Int)
    . rw [zAc c,zAb (by omega)];rfl
    . rw [zAd c,zAa (by omega)];have hr:=(ht.2 _ (ju h)).1
      rw [zpx (L:=zfm k t (j:Int)) t[j].outs false (fun l=>decide (l.length<=10)) hr (fun m i hi=>by
        rw [zfm,zd8 h,zAc (zaq hi),zAc ⟨by omega,zaq hi⟩,zd8 hi];by_cases d:10<(t[j].outs[i].length:Int)
        . rw [zAc d,zAb (by omega)];rfl
        . rw [zAd d,zAa (by omega)];rfl) (fun m=>by rw [zfm,zd8 h,zAd (by omega)]) (gr hr hk),ff]
      simp only [jy]
      cases t[j].outs.all _<;>rfl) (fun m=>by rw [zfn,zAd (by omega)]) (gr ht.1 hk),ff]
  cases t.all _<;>rfl
theorem zs5 {a b:Nat} (ha:a<2 ^ 64) (hb:b<2 ^ 64) (i:Nat):(a - (a &&& b)).testBit i=(a.testBit i && !b.testBit i):=by
  rw [<- zo2 64 ha hb,lq,show 2 ^ 64 - 1 - b=2 ^ 64 - (b+1) by omega,Nat.testBit_two_pow_sub_succ hb];by_cases hi:i<64
  . simp [hi]
  . have:a.testBit i=false:=mo (gr ha (lz (by decide) (by omega)));simp [this]
theorem zsb {a b:Nat} (ha:a<65536) (hb:b<65536) (h:∀ t,t<16->a.testBit t=b.testBit t):a=b:=by
  apply n4;intro t;by_cases ht:t<16
  . exact h t ht
  . have e:65536<=2 ^ t:=lz (n:=2) (by decide) (show 16<=t by omega);rw [mo (gr ha e),mo (gr hb e)]
theorem zwd {t s:Nat}:(2 ^ t).testBit s=decide (t=s):=Nat.testBit_two_pow
theorem yfg {w t:Nat} (hw:w<65536) (ht:t<16) (h:w.testBit t=false):w+2 ^ t=w ||| 2 ^ t:=by
  have hp:2 ^ t<65536:=o7 (by decide) ht;have ho:w ||| 2 ^ t<2 ^ 16:=px hw hp
  have e1:(w ||| 2 ^ t) &&& 2 ^ t=2 ^ t:=by
    apply n4;intro s;rw [lq,oe];cases (2 ^ t).testBit s<;>simp
  have e2:(w ||| 2 ^ t) - ((w ||| 2 ^ t) &&& 2 ^ t)=w:=by
    apply n4;intro s;rw [zs5 (by omega) (by omega),oe,zwd];by_cases hs:t=s
    . subst hs;simp [h]
    . simp [hs]
  have e3:2 ^ t<=w ||| 2 ^ t:=Nat.right_le_or
  omega
theorem yk9 {w t:Nat} (hw:w<65536) (ht:t<16) (h:w.testBit t=true):2 ^ t<=w/\∀ s,(w - 2 ^ t).testBit s=(w.testBit s && !decide (t=s)):=by
  have hp:2 ^ t<65536:=o7 (by decide) ht
  have e1:w &&& 2 ^ t=2 ^ t:=by
    apply n4;intro s;rw [lq,zwd];by_cases hs:t=s
    . subst hs;simp [h]
    . simp [hs]
  have h1:w &&& 2 ^ t<=w:=pk;refine ⟨by omega,fun s=>?_⟩;have:=zs5 (a:=w) (b:=2 ^ t) (by omega) (by omega) s;rw [e1,zwd] at this;exact this
/-! heads -/
def hw (h:Ar 10) (i:Nat):Nat:=(gx h.l (i:Int)).toNat
def hbit (h:Ar 10) (i:Nat):Bool:=(hw h (i / 16)).testBit (15 - i % 16)
theorem zbf {h:Ar 10} (hr:zac h=true) {i:Nat} (hi:i<10):gx h.l (i:Int)=(hw h i:Int)/\hw h i<65536:=by
  obtain ⟨n,h1,h2⟩:=zy9 hr hi;unfold hw;rw [h1];exact ⟨by simp,by simpa using h2⟩
theorem z8z (j t:Nat) (hj:j<10) (ht:t<16):(16*j+(15 - t)) / 16=j/\15 - (16*j+(15 - t)) % 16=t/\16*j+(15 - t)<160:=by omega
theorem zkr (h:Ar 10) {j t:Nat} (hj:j<10) (ht:t<16):hbit h (16*j+(15 - t))=(hw h j).testBit t:=by
  obtain ⟨a,b,_⟩:=z8z j t hj ht;unfold hbit;rw [a,b]
theorem yop {n:Nat} {a b:Ar n} (h:∀ j:Nat,j<n->gx a.l (j:Int)=gx b.l (j:Int)):a=b:=by
  apply Ar.ext';apply List.ext_getElem (by rw [a.h,b.h]);intro i h1 h2;have:=h i (by rw [<- a.h];exact h1)
  rwa [zd8 h1,zd8 h2] at this
theorem zn6 {a b:Ar 10} (ha:zac a=true) (hb:zac b=true) (h:∀ i,i<160->hbit a i=hbit b i):a=b:=by
  apply yop;intro j hj;obtain ⟨a1,a2⟩:=zbf ha hj;obtain ⟨b1,b2⟩:=zbf hb hj;rw [a1,b1,zsb a2 b2 fun t ht=>by rw [<- zkr a hj ht,<- zkr b hj ht];exact h _ (z8z j t hj ht).2.2]
theorem zil {h:Ar 10} (hh:∀ j:Nat,j<10->∃ n:Nat,gx h.l (j:Int)=(n:Int)/\n<65536):zac h=true:=by
  unfold zac;rw [zvd];intro j hj;have hj':j<10:=by rw [<- h.h];exact hj
  obtain ⟨n,h1,h2⟩:=hh j hj';rw [zd8 hj] at h1;rw [h1];exact zAa (by omega)
/-! one bit -/
theorem zv9 {k i:Nat} (hi:i<160) (hk:16<k):zji k (i:Int)=some ((2 ^ (15 - i % 16):Nat):Int):=by
  have key:∀ m kk,kk<=i % 16->i % 16 - kk<m->ze2 k (i:Int) m ((2 ^ (15 - kk):Nat):Int) (kk:Int)=some ((2 ^ (15 - i % 16):Nat):Int):=by
    intro m
    induction m with
    |zero=>intro kk h1 h2;omega
    |succ m ih =>
      intro kk h1 h2;rw [ze2,zAc ⟨by omega,by decide⟩];by_cases c:kk<i % 16
      . have hp:2 ^ (15 - kk)=2 ^ (15 - (kk+1))*2:=by rw [<- sn];congr 1;omega
        have hb:2 ^ (15 - kk)<=2 ^ 15:=lz (by decide) (by omega);rw [zAc (by omega),zAc ⟨by omega,by decide⟩,za4 kk (by omega)];have e:fi.wrap (((2 ^ (15 - kk):Nat):Int) / 2)=((2 ^ (15 - (kk+1)):Nat):Int):=by rw [wr64 (by omega)];omega
        rw [e];exact ih (kk+1) (by omega) (by omega)
      . rw [zAd (by omega),show kk=i % 16 by omega]
  unfold zji;have:=key k 0 (ir _) (by omega);rw [show ((2 ^ (15 - 0):Nat):Int)=32768 by decide] at this;rw [show (0:Int)=((0:Nat):Int) from rfl,this];rfl
theorem zym {i:Nat} (hi:i<160):fi.wrap ((i:Int) / 16)=((i / 16:Nat):Int):=by rw [wr64 (by omega)];omega
theorem zgh {k i:Nat} {h:Ar 10} (hr:zac h=true) (hi:i<160) (hk:16<k):zdl k h (i:Int)=some ((hbit h i).toNat:Int):=by
  unfold zdl;obtain ⟨a1,a2⟩:=zbf hr (i:=i / 16) (by omega);rw [zAc ⟨by omega,by decide⟩,zym hi,zAc ⟨by omega,by omega⟩,zv9 hi hk,ff,a1];have hp:0<2 ^ (15 - i % 16):=Nat.two_pow_pos _;rw [zAc ⟨by omega,by omega⟩]
  have e:fi.wrap ((hw h (i / 16):Int) / ((2 ^ (15 - i % 16):Nat):Int))=((hw h (i / 16) / 2 ^ (15 - i % 16):Nat):Int):=by
    have:hw h (i / 16) / 2 ^ (15 - i % 16)<=hw h (i / 16):=rj _ _;rw [<- Int.natCast_ediv];generalize hw h (i / 16) / 2 ^ (15 - i % 16)=q at *;rw [wr64 (by omega)]
  rw [e];unfold hbit;rw [Nat.testBit_eq_decide_div_mod_eq];generalize hw h (i / 16) / 2 ^ (15 - i % 16)=q at *;rw [zAc ⟨by omega,by decide⟩];congr 1;by_cases c:q % 2=1
  . rw [zAa c];simp only [Bool.toNat_true];omega
  . rw [zAb c];simp only [qf];omega
/-! matching -/
def zap (p:Pat) (h:Ar 10):Bool:=(kg 160).all fun i=>!hbit p.mask i || (hbit p.bits i == hbit h i)
theorem zas {p:Pat} {h:Ar 10}:zap p h=true↔∀ i,i<160->hbit p.mask i=true->hbit p.bits i=hbit h i:=by
  unfold zap;rw [ib];constructor
  . intro hh i hi hm;have:=hh i (k9.2 hi);rw [hm] at this;simpa using this
  . intro hh i hi;have:=hh i (k9.1 hi)
    cases hm:hbit p.mask i with
    |false=>rfl
    |true=>simpa using this hm
theorem zv5 {b h m:Nat} (hb:b<65536) (hh:h<65536) (hm:m<65536):(b ^^^ h) &&& m=0↔∀ t,t<16->m.testBit t=true->b.testBit t=h.testBit t:=by
  constructor
  . intro h0 t ht h1;have:=congrArg (fun x=>Nat.testBit x t) h0;simp only [lq,Nat.testBit_xor,oi,h1,Bool.and_true] at this;revert this;cases b.testBit t<;>cases h.testBit t<;>simp
  . intro h0;apply zsb (ou Nat.and_le_right hm) (by decide);intro t ht;simp only [lq,Nat.testBit_xor,oi]
    cases h1:m.testBit t with
    |false=>simp
    |true=>rw [h0 t ht h1];simp
theorem zah {p:Pat}:zaf p=true↔zac p.mask=true/\zac p.bits=true/\∀ i,i<160->hbit p.bits i=true->hbit p.mask i=true:=by
  unfold zaf
  simp only [fj];refine and_congr_right fun hm=>and_congr_right fun hb=>?_;unfold zyp;rw [ib]
  have key:∀ j:Nat,j<10->(decide (iAnd .i64 (gx p.bits.l (j:Int)) (gx p.mask.l (j:Int))=gx p.bits.l (j:Int))=true↔∀ t,t<16->(hw p.bits j).testBit t=true->(hw p.mask j).testBit t=true):=by
    intro j hj;obtain ⟨a1,a2⟩:=zbf hb hj;obtain ⟨b1,b2⟩:=zbf hm hj;rw [a1,b1,zsr (by omega) (by omega),decide_eq_true_eq];constructor
    . intro h t ht h1;have h':hw p.bits j &&& hw p.mask j=hw p.bits j:=by omega
      rw [<- h',lq] at h1;simp only [fj] at h1;exact h1.2
    . intro h;congr 1;apply zsb (ou pk a2) a2;intro t ht;rw [lq]
      cases h1:(hw p.bits j).testBit t with
      |false=>rfl
      |true=>rw [h t ht h1];rfl
  constructor
  . intro h i hi h1;have:=(key (i / 16) (by omega)).1 (h _ (k9.2 (by omega))) (15 - i % 16) (by omega);exact this h1
  . intro h j hj;have hj':=k9.1 hj
    exact (key j hj').2 fun t ht h1=>by
      rw [<- zkr p.mask hj' ht];exact h _ (z8z j t hj' ht).2.2 (by rw [zkr p.bits hj' ht];exact h1)
theorem ydb {a:Nat} (h:a<160):(a:Int)<160:=by omega
theorem z0b {a b:Bool}:((a.toNat:Int)≠(b.toNat:Int))↔a≠b:=by cases a<;>cases b<;>decide
theorem zl3 {a:Bool}:((a.toNat:Int)=1)↔a=true:=by cases a<;>decide
/-! rewriting -/
def zvj (m:Pat) (h x:Ar 10):Prop:=zac x=true/\∀ i,i<160->hbit x i=if hbit m.mask i=true then hbit m.bits i else hbit h i
theorem zvj.uniq {m:Pat} {h x y:Ar 10} (a:zvj m h x) (b:zvj m h y):x=y:=zn6 a.1 b.1 fun i hi=>by rw [a.2 i hi,b.2 i hi]
theorem zf3 {n:Nat} {a:Ar n} {i:Nat} (v:Int) (hi:i<n):gx (a.set (i:Int) v).l (i:Int)=v:=by
  show (a.l.set i v).getD i default=v;rw [fo,List.getElem?_set_self (by rw [a.h];exact hi)];rfl
theorem zit {n:Nat} {a:Ar n} {i j:Nat} (v:Int) (hj:j<n) (h:i≠j):gx (a.set (i:Int) v).l (j:Int)=gx a.l (j:Int):=by
  show (a.l.set i v).getD j default=a.l.getD j default;rw [fo,fo,List.getElem?_set_ne h]
theorem zj6 {k i:Nat} {h:Ar 10} {b:Bool} (hr:zac h=true) (hi:i<160) (hk:16<k):∃ x,zfi k h (i:Int) (b.toNat:Int)=some x/\zac x=true/\∀ j,j<160->hbit x j=if j=i then b else hbit h j:=by
  unfold zfi;obtain ⟨a1,a2⟩:=zbf hr (i:=i / 16) (by omega);rw [zAc ⟨by omega,by decide⟩,zym hi,zAc ⟨by omega,by omega⟩,zgh hr hi hk,ff,zv9 hi hk,ff,a1];have ht:15 - i % 16<16:=by omega
  have hp:2 ^ (15 - i % 16)<65536:=o7 (by decide) ht;have hpp:0<2 ^ (15 - i % 16):=Nat.two_pow_pos _;have hi10:i / 16<10:=by omega
  -- the new word
  have hnew:∃ w:Nat,fi.wrap ((hw h (i / 16):Int)+fi.wrap (fi.wrap ((b.toNat:Int) - ((hbit h i).toNat:Int))*((2 ^ (15 - i % 16):Nat):Int)))=(w:Int)/\w<65536/\∀ s,w.testBit s=if s=15 - i % 16 then b else (hw h (i / 16)).testBit s:=by
    cases hb:hbit h i with
    |false =>
      have hb':(hw h (i / 16)).testBit (15 - i % 16)=false:=hb
      cases b with
      |false =>
        refine ⟨hw h (i / 16),?_,a2,fun s=>?_⟩
        . simp only [qf,Int.natCast_zero,Int.sub_self];rw [wr64 (n:=0) (by omega),Int.zero_mul,wr64 (n:=0) (by omega),Int.add_zero,wr64 (by omega)]
        . by_cases hs:s=15 - i % 16
          . rw [zAc hs,hs,hb']
          . rw [zAd hs]
      |true =>
        refine ⟨hw h (i / 16)+2 ^ (15 - i % 16),?_,?_,fun s=>?_⟩
        . simp only [Bool.toNat_true,qf];rw [wr64 (n:=((1:Nat):Int) - ((0:Nat):Int)) (by omega),show ((1:Nat):Int) - ((0:Nat):Int)=1 by omega,Int.one_mul,wr64 (n:=((2 ^ (15 - i % 16):Nat):Int)) (by omega),wr64 (by omega)];omega
        . rw [yfg a2 ht hb'];exact px (n:=16) a2 hp
        . rw [yfg a2 ht hb',oe,zwd];by_cases hs:s=15 - i % 16
          . rw [zAc hs];simp [hs]
          . rw [zAd hs];simp [Ne.symm hs]
    |true =>
      have hb':(hw h (i / 16)).testBit (15 - i % 16)=true:=hb;obtain ⟨g1,g2⟩:=yk9 a2 ht hb'
      cases b with
      |true =>
        refine ⟨hw h (i / 16),?_,a2,fun s=>?_⟩
        . simp only [Int.sub_self];rw [wr64 (n:=0) (by omega),Int.zero_mul,wr64 (n:=0) (by omega),Int.add_zero,wr64 (by omega)]
        . by_cases hs:s=15 - i % 16
          . rw [zAc hs,hs,hb']
          . rw [zAd hs]
      |false =>
        refine ⟨hw h (i / 16) - 2 ^ (15 - i % 16),?_,by omega,fun s=>?_⟩
        . simp only [Bool.toNat_true,qf];rw [wr64 (n:=((0:Nat):Int) - ((1:Nat):Int)) (by omega),show ((0:Nat):Int) - ((1:Nat):Int)=-1 by omega,wr64 (n:=-1*((2 ^ (15 - i % 16):Nat):Int)) (by omega),wr64 (by omega)];omega
        . rw [g2];by_cases hs:s=15 - i % 16
          . rw [zAc hs];simp [hs]
          . rw [zAd hs];simp [Ne.symm hs]
  obtain ⟨w,e1,e2,e3⟩:=hnew;refine ⟨_,rfl,?_,?_⟩
  . rw [e1];refine zil fun j hj=>?_;by_cases hij:i / 16=j
    . subst hij;exact ⟨w,zf3 _ hj,e2⟩
    . rw [zit _ hj hij];exact ⟨_,(zbf hr hj).1,(zbf hr hj).2⟩
  . intro j hj;rw [e1];unfold hbit;have hj10:j / 16<10:=by omega
    by_cases hij:i / 16=j / 16
    . have:hw (h.set ((i / 16:Nat):Int) (w:Int)) (j / 16)=w:=by
        unfold hw;rw [<- hij,zf3 _ hi10];rfl
      rw [this,e3,<- hij];by_cases hm:j=i
      . subst hm;rw [zAc rfl,zAc rfl]
      . rw [zAd hm,zAd (by omega)]
    . have:hw (h.set ((i / 16:Nat):Int) (w:Int)) (j / 16)=hw h (j / 16):=by
        unfold hw;rw [zit _ hj10 hij]
      rw [this,zAd (fun hm=>hij (by rw [hm]))]
theorem ycf {k:Nat} {m:Pat} {h:Ar 10} (hp:zaf m=true) (hh:zac h=true) (hk:160<k):∃ x,zlb k m h=some x/\zvj m h x:=by
  obtain ⟨pm,pb,pw⟩:=zah.1 hp
  have key:∀ fu i (x:Ar 10),i<=160->160 - i<fu->zac x=true->(∀ j,j<160->hbit x j=if j<i/\hbit m.mask j=true then hbit m.bits j else hbit h j)->∃ y,zdw k m fu (i:Int) x=some y/\zvj m h y:=by
    intro fu
    induction fu with
    |zero=>intro i x h1 h2;omega
    |succ fu ih =>
      intro i x h1 h2 h3 h4;rw [zdw];by_cases c:i<160
      . rw [zAc (ydb c),zgh pm c (by omega),ff,zgh pb c (by omega),za4 i (by omega)];by_cases d:hbit m.mask i=true
        . rw [zAc (zl3.2 d),ff];obtain ⟨y,s1,s2,s3⟩:=zj6 (b:=hbit m.bits i) h3 c (show 16<k by omega);rw [s1,ff];refine ih (i+1) y (by omega) (by omega) s2 fun j hj=>?_;rw [s3 j hj];by_cases hji:j=i
          . subst hji;rw [zAc rfl,zAc ⟨by omega,d⟩]
          . rw [zAd hji,h4 j hj];by_cases hq:j<i/\hbit m.mask j=true
            . rw [zAc hq,zAc ⟨by omega,hq.2⟩]
            . rw [zAd hq,zAd (fun hh2=>hq ⟨by omega,hh2.2⟩)]
        . rw [zAd (fun hq=>d (zl3.1 hq))];refine ih (i+1) x (by omega) (by omega) h3 fun j hj=>?_;rw [h4 j hj];by_cases hji:j=i
          . subst hji;rw [zAd (fun hq=>d hq.2),zAd (fun hq=>d hq.2)]
          . by_cases hq:j<i/\hbit m.mask j=true
            . rw [zAc hq,zAc ⟨by omega,hq.2⟩]
            . rw [zAd hq,zAd (fun hh2=>hq ⟨by omega,hh2.2⟩)]
      . obtain rfl:i=160:=by omega
        rw [zAd (by decide)];refine ⟨x,rfl,h3,fun j hj=>?_⟩;rw [h4 j hj];by_cases hq:hbit m.mask j=true
        . rw [zAc ⟨hj,hq⟩,zAc hq]
        . rw [zAd (fun hh2=>hq hh2.2),zAd hq]
  obtain ⟨y,h1,h2⟩:=key k 0 h (by omega) (by omega) hh fun j hj=>by rw [zAd (fun hq=>Nat.not_lt_zero _ hq.1)]
  refine ⟨y,?_,h2⟩;unfold zlb;rw [show (0:Int)=((0:Nat):Int) from rfl,h1];rfl
theorem z70 {α:Type} [Inhabited α] (q:α->Bool):∀ (l:List α),(l.find? q=none/\idxB q l=-1)\/∃ i:Nat,∃ h:i<l.length,idxB q l=(i:Int)/\l.find? q=some l[i]
  |[]=>.inl ⟨rfl,rfl⟩
  |x :: l=>by
    unfold idxB;rw [List.findIdx?_cons,List.find?_cons]
    cases hq:q x with
    |true=>exact .inr ⟨0,by simp,rfl,rfl⟩
    |false =>
      rcases z70 q l with ⟨h1,h2⟩|⟨i,hi,h1,h2⟩
      . left;unfold idxB at h2;refine ⟨h1,?_⟩
        cases hf:l.findIdx? q with
        |none=>rfl
        |some j=>rw [hf] at h2;simp at h2;try omega
      . right;unfold idxB at h1;refine ⟨i+1,by simpa using hi,?_,by simpa using h2⟩
        cases hf:l.findIdx? q with
        |none=>rw [hf] at h1;simp at h1;try omega
        |some j=>rw [hf] at h1;simp at h1 ⊢;omega
def ylu (t:List Rule) (h:Ar 10):Int:=idxB (fun r=>zap r.mat h) t
theorem zqa {α β:Type} {c:α->Option β}:∀ {l:List α},l.findSome? c=none->∀ x,x∈l->c x=none
  |[],_,x,hx=>by cases hx
  |y :: l,h,x,hx=>by
    rw [n8] at h
    cases hc:c y with
    |some b=>rw [hc] at h;cases h
    |none =>
      rw [hc] at h
      cases hx with
      |head=>exact hc
      |tail _ hx=>exact zqa h x hx
theorem z24 {n:Net} {steps:Int} {t:List Rule} (h:(znl n steps t).2=0):t.length<=4000/\∀ j,j<t.length->znf n steps t j=true:=by
  unfold znl at h;by_cases c1:steps<0\/1000<steps
  . rw [zAc c1] at h;cases h
  . rw [zAd c1] at h;by_cases c2:4000<t.length
    . rw [zAc c2] at h;cases h
    . rw [zAd c2] at h;refine ⟨by omega,fun j hj=>?_⟩
      cases hf:(kg t.length).findSome? (fun j=>if znf n steps t j=true then none else some ((j:Int),(1:Int))) with
      |some r =>
        rw [hf] at h;obtain ⟨x,_,hx⟩:=List.exists_of_findSome?_eq_some hf;simp only at h;split at hx
        . cases hx
        . cases hx;cases h
      |none =>
        have:=zqa hf j (k9.2 hj)
        cases hg:znf n steps t j with
        |true=>rfl
        |false=>rw [hg] at this;simp at this
theorem yed {n:Net} {steps:Int} {t:List Rule} (h:(znl n steps t).2=0):∀ r,r∈t->formed n steps r=true:=by
  intro r hr;obtain ⟨j,hj,rfl⟩:=mq hr;have:=(z24 h).2 j hj;unfold znf at this;rw [fo,fk hj] at this;simp only [fj] at this;exact this.1
theorem wru {n:Nat} (h:n<18446744073709551616):f5.wrap (n:Int)=(n:Int):=by
  show ((n:Int)) % (2 ^ 64:Int)=_;omega
theorem uAnd {a m:Nat} {c:Int} (hc:c=(m:Int)) (ha:a<18446744073709551616) (hm:m<18446744073709551616):iAnd .u64 (a:Int) c=((o8 a m:Nat):Int):=by
  subst hc;have h:a &&& m<=a:=pk;show f5.wrap ((i8 64 (a:Int) &&& i8 64 (m:Int)).toNat:Int)=_;rw [oh,ln,ln];rw [show ((a:Int) % ((2 ^ 64:Nat):Int)).toNat=a by omega,show ((m:Int) % ((2 ^ 64:Nat):Int)).toNat=m by omega];exact wru (by omega)
theorem uShr {a:Nat} {c:Int} (s:Nat) (hc:c=(s:Int)) (hs:s<=64):iShr .u64 (a:Int) c=((mw a (2 ^ s):Nat):Int):=by
  subst hc;unfold iShr
  have e:min ((s:Int)).toNat f5.bits=s:=by
    show min ((s:Int)).toNat 64=s;omega
  rw [e,Int.fdiv_eq_ediv_of_nonneg _ (by exact Int.le_of_lt (Int.pow_pos (by decide)))];show (a:Int) / (2:Int) ^ s=((a / 2 ^ s:Nat):Int);rw [Int.natCast_ediv,Int.natCast_pow];rfl
theorem uAdd {a b:Nat}:f5.wrap ((a:Int)+(b:Int))=((py (pl a b) 18446744073709551616:Nat):Int):=by
  show ((a:Int)+(b:Int)) % (2 ^ 64:Int)=(((a+b) % 18446744073709551616:Nat):Int);omega
def stA (x:Nat):Nat:=py (pl (o8 (mw x 2) 6148914691236517205) (o8 x 6148914691236517205)) 18446744073709551616
def stB (x:Nat):Nat:=py (pl (o8 (mw x 4) 3689348814741910323) (o8 x 3689348814741910323)) 18446744073709551616
def stC (x:Nat):Nat:=o8 (py (pl (mw x 16) x) 18446744073709551616) 1085102592571150095
def stD (s x:Nat):Nat:=py (pl x (mw x s)) 18446744073709551616
def popF (x:Nat):Nat:=stD 4294967296 (stD 65536 (stD 256 (stC (stB (stA x)))))
def popG (x:Nat):Nat:=o8 (popF x) 127
theorem z66 (a:Nat):py a 18446744073709551616<18446744073709551616:=Nat.mod_lt _ (by decide)
theorem z0i {k x:Nat} (hx:x<65536) (hf:popF x<9223372036854775808):zcj k (x:Int)=some ((popG x:Nat):Int):=by
  unfold zcj;rw [zAc (by decide),zAc (by decide),zAc (by decide),zAc (by decide),zAc (by decide),zAc (by decide)];rw [uShr (a:=x) (c:=1) 1 rfl (by decide)];have l1:mw x (2 ^ 1)<18446744073709551616:=ou (rj _ _) (by omega);rw [uAnd (a:=mw x (2 ^ 1)) (c:=6148914691236517205) (m:=6148914691236517205) rfl l1 (by decide),uAnd (a:=x) (c:=6148914691236517205) (m:=6148914691236517205) rfl (by omega) (by decide),uAdd];obtain ⟨a,ha⟩:∃ a,a=stA x:=⟨_,rfl⟩;rw [show py (pl (o8 (mw x (2 ^ 1)) 6148914691236517205) (o8 x 6148914691236517205)) 18446744073709551616=a from by rw [ha];rfl];have la:a<18446744073709551616:=by rw [ha];exact z66 _
  rw [uShr (a:=a) (c:=2) 2 rfl (by decide)];have l2:mw a (2 ^ 2)<18446744073709551616:=ou (rj _ _) la;rw [uAnd (a:=mw a (2 ^ 2)) (c:=3689348814741910323) (m:=3689348814741910323) rfl l2 (by decide),uAnd (a:=a) (c:=3689348814741910323) (m:=3689348814741910323) rfl la (by decide),uAdd];obtain ⟨b,hb⟩:∃ b,b=stB a:=⟨_,rfl⟩;rw [show py (pl (o8 (mw a (2 ^ 2)) 3689348814741910323) (o8 a 3689348814741910323)) 18446744073709551616=b from by rw [hb];rfl];rw [uShr (a:=b) (c:=4) 4 rfl (by decide),uAdd (a:=mw b (2 ^ 4)) (b:=b),uAnd (c:=1085102592571150095) (m:=1085102592571150095) rfl (z66 _) (by decide)];obtain ⟨c,hc⟩:∃ c,c=stC b:=⟨_,rfl⟩;rw [show o8 (py (pl (mw b (2 ^ 4)) b) 18446744073709551616) 1085102592571150095=c from by rw [hc];rfl];rw [uShr (a:=c) (c:=8) 8 rfl (by decide),uAdd];obtain ⟨d,hd⟩:∃ d,d=stD 256 c:=⟨_,rfl⟩;rw [show py (pl c (mw c (2 ^ 8))) 18446744073709551616=d from by rw [hd];rfl];rw [uShr (a:=d) (c:=16) 16 rfl (by decide),uAdd];obtain ⟨e,he⟩:∃ e,e=stD 65536 d:=⟨_,rfl⟩;rw [show py (pl d (mw d (2 ^ 16))) 18446744073709551616=e from by rw [he];rfl];rw [uShr (a:=e) (c:=32) 32 rfl (by decide),uAdd];have hF:py (pl e (mw e (2 ^ 32))) 18446744073709551616=popF x:=by rw [he,hd,hc,hb,ha];rfl
  rw [hF,wr64 (by omega),show (127:Int)=((127:Nat):Int) from rfl,zsr hf (by decide)];rfl
def cntB (n x:Nat):Nat:=((kg n).filter fun t=>x.testBit t).length
theorem yeu (n x:Nat):cntB (n+1) x=x % 2+cntB n (x / 2):=by
  unfold cntB;rw [List.range_succ_eq_map,List.filter_cons,List.filter_map,Nat.testBit_zero]
  have e:((fun t=>x.testBit t) ∘ Nat.succ)=fun t=>(x / 2).testBit t:=by
    funext t;show x.testBit (t+1)=_;rw [Nat.testBit_succ]
  rw [e];by_cases h:x % 2=1
  . rw [zAc (zAa h),gh,fq];omega
  . rw [zAd (by simpa using h),fq];omega
def ykj (x:Nat):Bool:=and (Nat.beq (popG (pi 2 x)) (popG x)) (and (Nat.beq (popG (Nat.succ (pi 2 x))) (Nat.succ (popG x))) (and (Nat.blt (popF (pi 2 x)) 9223372036854775808) (Nat.blt (popF (Nat.succ (pi 2 x))) 9223372036854775808)))
def ykk:Bool:=(kg 128).all fun a=>(kg 256).all fun b=>ykj (pl (pi 256 a) b)
theorem z5c:ykk=true:=by kernel_rfl
theorem yog {x:Nat} (hx:x<32768):popG (2*x)=popG x/\popG (2*x+1)=popG x+1/\popF (2*x)<9223372036854775808/\popF (2*x+1)<9223372036854775808:=by
  have h:=z5c;unfold ykk at h;have h1:=ib.1 h (x / 256) (k9.2 (by omega));have h2:=ib.1 h1 (x % 256) (k9.2 (by omega));rw [show pl (pi 256 (x / 256)) (x % 256)=x from Nat.div_add_mod x 256] at h2;unfold ykj at h2;obtain ⟨q1,h2⟩:=and_true' h2;obtain ⟨q2,h2⟩:=and_true' h2;obtain ⟨q3,q4⟩:=and_true' h2;exact ⟨fl q1,fl q2,zad.1 q3,zad.1 q4⟩
where
  and_true' {a b:Bool} (h:and a b=true):a=true/\b=true:=by cases a<;>cases b<;>simp_all
theorem yci:∀ n x,n<=16->x<2 ^ n->popG x=cntB n x/\popF x<9223372036854775808
  |0,x,_,h=>by
    obtain rfl:x=0:=by simpa using h
    exact ⟨by decide +kernel,by decide +kernel⟩
  |n+1,x,hn,h=>by
    have h2:x / 2<2 ^ n:=by rw [sn] at h;omega
    have h3:(2:Nat) ^ n<=2 ^ 15:=lz (by decide) (by omega);obtain ⟨i1,_⟩:=yci n (x / 2) (by omega) h2;obtain ⟨c1,c2,c3,c4⟩:=yog (x:=x / 2) (by omega);rw [yeu,<- i1];by_cases h4:x % 2=1
    . rw [show x=2*(x / 2)+1 by omega];rw [show (2*(x / 2)+1) / 2=x / 2 by omega,show (2*(x / 2)+1) % 2=1 by omega];exact ⟨by omega,c4⟩
    . have e:x=2*(x / 2):=by omega
      rw [e];rw [show (2*(x / 2)) / 2=x / 2 by omega,show (2*(x / 2)) % 2=0 by omega];exact ⟨by omega,c3⟩
theorem zv1 {k x:Nat} (hx:x<65536):zc6 k (x:Int)=some ((cntB 16 x:Nat):Int):=by
  obtain ⟨h1,h2⟩:=yci 16 x (fp _) hx;unfold zc6;rw [z0i hx h2,h1];rfl
theorem z22 (x:Nat):cntB 16 x<=16/\((cntB 16 x=0/\∀ t,t<16->x.testBit t=false)\/(cntB 16 x=1/\∃ t,t<16/\x.testBit t=true/\∀ s,s<16->x.testBit s=true->s=t)\/(2<=cntB 16 x/\∃ s t,s<16/\t<16/\s≠t/\x.testBit s=true/\x.testBit t=true)):=by
  have hle:cntB 16 x<=16:=jv (nj _ _) (by rw [List.length_range];exact fp _);refine ⟨hle,?_⟩;unfold cntB;have hmem:∀ t,t∈(kg 16).filter (fun t=>x.testBit t)↔t<16/\x.testBit t=true:=fun t=>by rw [oy,k9]
  have hnd:((kg 16).filter fun t=>x.testBit t).Nodup:=List.Pairwise.filter _ List.nodup_range;generalize (kg 16).filter (fun t=>x.testBit t)=L at hmem hnd
  match L,hmem,hnd with
  | [], hmem, _ => exact .inl ⟨rfl, fun t ht => by
      cases hb:x.testBit t with
      |false=>rfl
      |true=>exact absurd ((hmem t).2 ⟨ht,hb⟩) (by simp)⟩
  |[t],hmem,_=>exact .inr (.inl ⟨rfl,t,((hmem t).1 (.head _)).1,((hmem t).1 (.head _)).2,fun s hs hb=>by simpa using (hmem s).2 ⟨hs,hb⟩⟩)
  |s :: t :: L,hmem,hnd =>
    have h1:=(hmem s).1 (.head _);have h2:=(hmem t).1 (.tail _ (.head _));refine .inr (.inr ⟨by simp,s,t,h1.1,h2.1,fun e=>?_,h1.2,h2.2⟩);subst e;simp at hnd
def zdi (p q:Pat):Bool:=(kg 160).all fun i=>!(hbit p.mask i && hbit q.mask i) || (hbit p.bits i == hbit q.bits i)
theorem zim {p q:Pat}:zdi p q=true↔∀ i,i<160->hbit p.mask i=true->hbit q.mask i=true->hbit p.bits i=hbit q.bits i:=by
  unfold zdi;rw [ib];constructor
  . intro hh i hi hm hq;have:=hh i (k9.2 hi);rw [hm,hq] at this;simpa using this
  . intro hh i hi;have:=hh i (k9.1 hi)
    cases hm:hbit p.mask i with
    |false=>rfl
    |true =>
      cases hq:hbit q.mask i with
      |false=>rfl
      |true=>simpa using this hm hq
theorem zr4 {k:Nat} {p q:Pat} (hp:zaf p=true) (hq:zaf q=true) (hk:10<k):zgb k p q=some (zdi p q):=by
  obtain ⟨pm,pb,_⟩:=zah.1 hp;obtain ⟨qm,qb,_⟩:=zah.1 hq;unfold zgb
  rw [zir (L:=zce k p q) 10 false (fun j=>decide ((hw p.bits j ^^^ hw q.bits j) &&& (hw p.mask j &&& hw q.mask j)=0)) (by decide) (fun m j hj=>by
    obtain ⟨a1,a2⟩:=zbf pb hj;obtain ⟨b1,b2⟩:=zbf pm hj;obtain ⟨c1,c2⟩:=zbf qb hj;obtain ⟨d1,d2⟩:=zbf qm hj;have hx:hw p.bits j ^^^ hw q.bits j<2 ^ 16:=si a2 c2;have hy:(hw p.bits j ^^^ hw q.bits j) &&& hw p.mask j<=hw p.mask j:=Nat.and_le_right;rw [zce,zAc (lt10 hj),zAc ⟨by omega,lt10 hj⟩,a1,b1,c1,d1,z7q (by omega) (by omega),zsr (by omega) (by omega),zsr (by omega) (by omega),Nat.and_assoc];by_cases c:(hw p.bits j ^^^ hw q.bits j) &&& (hw p.mask j &&& hw q.mask j)=0
    . rw [zAd (by omega),zAc (zAa c)]
    . rw [zAc (by omega),zAd (by rw [decide_eq_true_eq];exact c)]) (fun m=>by rw [zce];exact zAd (by decide)) hk,ff]
  have e:(kg 10).all (fun j=>decide ((hw p.bits j ^^^ hw q.bits j) &&& (hw p.mask j &&& hw q.mask j)=0))=zdi p q:=by
    rw [ku,ib,zim];have hand:∀ j,j<10->hw p.mask j &&& hw q.mask j<65536:=fun j hj=>ou pk (zbf pm hj).2;constructor
    . intro hall i hi h1 h2;have:=zAe (hall (i / 16) (k9.2 (by omega)));refine (zv5 (zbf pb (by omega)).2 (zbf qb (by omega)).2 (hand (i / 16) (by omega))).1 this (15 - i % 16) (by omega) ?_;rw [lq];unfold hbit at h1 h2;rw [h1,h2];rfl
    . intro hall j hj;have hj':=k9.1 hj;refine zAa ((zv5 (zbf pb hj').2 (zbf qb hj').2 (hand j hj')).2 fun t ht h1=>?_);rw [lq,fj] at h1;rw [<- zkr p.bits hj' ht,<- zkr q.bits hj' ht];exact hall _ (z8z j t hj' ht).2.2 (by rw [zkr p.mask hj' ht];exact h1.1) (by rw [zkr q.mask hj' ht];exact h1.2)
  rw [e];cases zdi p q<;>rfl
theorem z5t {a:Ar 10} {i w:Nat} (ha:zac a=true) (hi:i<160) (hw':w<65536):zac (a.set ((i / 16:Nat):Int) (w:Int))=true/\∀ j,j<160->hbit (a.set ((i / 16:Nat):Int) (w:Int)) j=if j / 16=i / 16 then w.testBit (15 - j % 16) else hbit a j:=by
  have hi10:i / 16<10:=by omega
  refine ⟨zil fun j hj=>?_,fun j hj=>?_⟩
  . by_cases c:i / 16=j
    . subst c;exact ⟨w,zf3 _ hi10,hw'⟩
    . rw [zit _ hj c];exact ⟨_,(zbf ha hj).1,(zbf ha hj).2⟩
  . unfold hbit hw;by_cases c:i / 16=j / 16
    . rw [zAc c.symm,<- c,zf3 _ hi10];rfl
    . rw [zAd (fun q=>c q.symm),zit _ (by omega) c]
theorem yau {i:Nat}:2 ^ (15 - i % 16)<65536:=show 2 ^ (15 - i % 16)<2 ^ 16 from o7 (by decide) (by omega)
theorem ynv {a:Ar 10} {i:Nat} (ha:zac a=true) (hi:i<160):zac (a.set ((i / 16:Nat):Int) (iOr .i64 (gx a.l ((i / 16:Nat):Int)) ((2 ^ (15 - i % 16):Nat):Int)))=true/\∀ j,j<160->hbit (a.set ((i / 16:Nat):Int) (iOr .i64 (gx a.l ((i / 16:Nat):Int)) ((2 ^ (15 - i % 16):Nat):Int))) j=(decide (j=i) || hbit a j):=by
  obtain ⟨a1,a2⟩:=zbf ha (show i / 16<10 by omega);have h2:=yau (i:=i);rw [a1,z4y (by omega) (by omega)];obtain ⟨r1,r2⟩:=z5t ha hi (w:=hw a (i / 16) ||| 2 ^ (15 - i % 16)) (px (n:=16) a2 h2);refine ⟨r1,fun j hj=>?_⟩;rw [r2 j hj];by_cases c:j / 16=i / 16
  . rw [zAc c,oe,zwd,<- c,Bool.or_comm];congr 1;exact decide_eq_decide.2 (by omega)
  . rw [zAd c,zAb (by intro q;subst q;exact c rfl),md]
theorem yki {a:Ar 10} {i:Nat} (ha:zac a=true) (hi:i<160):zac (a.set ((i / 16:Nat):Int) (zhr .i64 (gx a.l ((i / 16:Nat):Int)) ((2 ^ (15 - i % 16):Nat):Int)))=true/\∀ j,j<160->hbit (a.set ((i / 16:Nat):Int) (zhr .i64 (gx a.l ((i / 16:Nat):Int)) ((2 ^ (15 - i % 16):Nat):Int))) j=(!decide (j=i) && hbit a j):=by
  obtain ⟨a1,a2⟩:=zbf ha (show i / 16<10 by omega);have h2:=yau (i:=i);rw [a1,zuq (by omega) (by omega)];obtain ⟨r1,r2⟩:=z5t ha hi (w:=hw a (i / 16) - (hw a (i / 16) &&& 2 ^ (15 - i % 16))) (by omega);refine ⟨r1,fun j hj=>?_⟩;rw [r2 j hj];by_cases c:j / 16=i / 16
  . rw [zAc c,zs5 (by omega) (by omega),zwd,<- c,Bool.and_comm];congr 2;exact decide_eq_decide.2 (by omega)
  . rw [zAd c,zAb (by intro q;subst q;exact c rfl),il,jy]
theorem yok {k i:Nat} (hi:i<160):zg4 k (i:Int)=some ((2 ^ (15 - i % 16):Nat):Int):=by
  have e:fi.wrap (15 - ((i:Int) % 16))=((15 - i % 16:Nat):Int):=by rw [wr64 (by omega)];omega
  unfold zg4;rw [zAc ⟨by omega,by decide⟩,e,zAc (by omega)];have h2:=yau (i:=i);unfold iShl
  have e2:min ((15 - i % 16:Nat):Int).toNat fi.bits=15 - i % 16:=by
    have:fi.bits=64:=rfl;rw [this];omega
  rw [e2,Int.one_mul,show ((2:Int) ^ (15 - i % 16))=((2 ^ (15 - i % 16):Nat):Int) by push_cast;rfl];generalize 2 ^ (15 - i % 16)=w at h2 ⊢;rw [wr64 (by omega)]
structure zyh (p:Pat) (i:Nat) (b:Bool) (r:Pat):Prop where
  mask:zac r.mask=true
  bits:zac r.bits=true
  hm:∀ j,j<160->hbit r.mask j=(decide (j=i) || hbit p.mask j)
  hb:∀ j,j<160->hbit r.bits j=if j=i then b else hbit p.bits j
theorem z8w {k i:Nat} {p:Pat} {b:Bool} (hp:zaf p=true) (hi:i<160):∃ r,zij k p (i:Int) (b.toNat:Int)=some r/\zyh p i b r:=by
  obtain ⟨pm,pb,_⟩:=zah.1 hp;have hw16:fi.wrap ((i:Int) / 16)=((i / 16:Nat):Int):=zym hi;have hi10:i / 16<10:=by omega
  unfold zij;rw [zAc ⟨by omega,by decide⟩,hw16,zAc ⟨by omega,by omega⟩,yok hi,ff,ff];obtain ⟨m1,m2⟩:=ynv pm hi;obtain ⟨c1,c2⟩:=yki pb hi
  cases b with
  |false =>
    rw [zAd (by decide)];exact ⟨_,rfl,m1,c1,m2,fun j hj=>by rw [c2 j hj];by_cases q:j=i<;>simp [q]⟩
  |true =>
    rw [zAc (by decide),ff];obtain ⟨o1,o2⟩:=ynv c1 hi;exact ⟨_,rfl,m1,o1,m2,fun j hj=>by rw [o2 j hj,c2 j hj];by_cases q:j=i<;>simp [q]⟩
/-! the first open bit -/
def zfl (a b:Nat):Nat:=(a - (a &&& b)) % 65536
theorem zw2:∀ (l m:List Nat) (i:Nat),l.length=m.length->(zr9 i l m=[]/\∀ s,s<l.length->zfl (l.getD s 0) (m.getD s 0)=0)\/∃ s,s<l.length/\(∀ s',s'<s->zfl (l.getD s' 0) (m.getD s' 0)=0)/\zfl (l.getD s 0) (m.getD s 0)≠0/\∃ r,zr9 i l m=(16*(i+s)+(15 - ke (zfl (l.getD s 0) (m.getD s 0)))) :: r
  |[],m,i,h=>.inl ⟨by unfold zr9;rfl,fun s hs=>by simp at hs⟩
  |a :: l,[],i,h=>by simp at h
  |a :: l,b :: m,i,h=>by
    have e:zr9 i (a :: l) (b :: m)=(zvy 17 (zfl a b)).map (fun x=>16*i+x)++zr9 (i+1) l m:=by rw [zr9];rfl
    rw [e];by_cases c:zfl a b=0
    . have e0:zvy 17 (zfl a b)=[]:=by rw [c];rfl
      rw [e0,List.map_nil,gg];rcases zw2 l m (i+1) (by simpa using h) with ⟨h1,h2⟩|⟨s,h1,h2,h3,r,h4⟩
      . refine .inl ⟨h1,fun s hs=>?_⟩
        cases s with
        |zero=>exact c
        |succ s=>exact h2 s (by simpa using hs)
      . refine .inr ⟨s+1,by simpa using h1,fun s' hs'=>?_,h3,r,?_⟩
        . cases s' with
          |zero=>exact c
          |succ s'=>exact h2 s' (by omega)
        . rw [h4,List.getD_cons_succ,List.getD_cons_succ,show i+1+s=i+(s+1) by omega]
    . have e0:zvy 17 (zfl a b)=(15 - ke (zfl a b)) :: zvy 16 (zfl a b - 2 ^ ke (zfl a b)):=by rw [zvy,zAd c]
      rw [e0];exact .inr ⟨0,by simp,fun s' hs'=>by omega,c,_,rfl⟩
theorem z9l {a b t:Nat} (ha:a<65536) (hb:b<65536) (ht:t<16):(zfl a b).testBit t=(a.testBit t && !b.testBit t):=by
  unfold zfl;rw [Nat.mod_eq_of_lt (by omega),zs5 (by omega) (by omega)]
theorem z11 {a:Ar 10} {s:Nat} (hs:s<10):(zgu a).getD s 0=hw a s:=by
  unfold zgu hw;rw [ziu,fo,fo,List.getElem?_map]
  cases h:a.l[s]? with
  |none=>rw [List.getElem?_eq_none_iff] at h;have:=a.h;omega
  |some x=>rfl
def zh2 (q p:Pat) (i:Nat):Bool:=hbit q.mask i && !hbit p.mask i
theorem z9n {q p:Pat} (hq:zac q.mask=true) (hp:zac p.mask=true):(z9o q.mask p.mask=[]/\∀ i,i<160->zh2 q p i=false)\/∃ x r,z9o q.mask p.mask=x :: r/\x<160/\zh2 q p x=true/\∀ i,i<x->zh2 q p i=false:=by
  have hl:∀ a:Ar 10,(zgu a).length=10:=fun a=>by unfold zgu;rw [fq,a.h]
  have hW:∀ s,s<10->zfl ((zgu q.mask).getD s 0) ((zgu p.mask).getD s 0)=zfl (hw q.mask s) (hw p.mask s):=fun s hs=>by rw [z11 hs,z11 hs]
  have bit:∀ i,i<160->zh2 q p i=(zfl (hw q.mask (i / 16)) (hw p.mask (i / 16))).testBit (15 - i % 16):=fun i hi=>by
    rw [z9l (zbf hq (by omega)).2 (zbf hp (by omega)).2 (by omega)];rfl
  have zero:∀ s,s<10->zfl ((zgu q.mask).getD s 0) ((zgu p.mask).getD s 0)=0->∀ i,i<160->i / 16=s->zh2 q p i=false:=fun s hs h0 i hi e=>by
    rw [bit i hi,e,<- hW s hs,h0,oi]
  rcases zw2 (zgu q.mask) (zgu p.mask) 0 (by rw [hl,hl]) with ⟨h1,h2⟩|⟨s,h1,h2,h3,r,h4⟩
  . refine .inl ⟨h1,fun i hi=>zero (i / 16) (by omega) (h2 _ (by rw [hl];omega)) i hi rfl⟩
  . rw [hl] at h1;rw [hW s h1] at h3 h4;have hlt:zfl (hw q.mask s) (hw p.mask s)<65536:=Nat.mod_lt _ (by decide);have hlog:ke (zfl (hw q.mask s) (hw p.mask s))<16:=(Nat.log2_lt h3).2 hlt;have htop:(zfl (hw q.mask s) (hw p.mask s)).testBit (ke (zfl (hw q.mask s) (hw p.mask s)))=true:=Nat.testBit_log2 h3;have hup:∀ t,ke (zfl (hw q.mask s) (hw p.mask s))<t->(zfl (hw q.mask s) (hw p.mask s)).testBit t=false:=fun t ht=>mo (gr (Nat.lt_log2_self) (lz (by decide) ht));generalize ke (zfl (hw q.mask s) (hw p.mask s))=g at *;refine .inr ⟨16*(0+s)+(15 - g),r,h4,by omega,?_,fun i hi=>?_⟩
    . rw [bit _ (by omega),show (16*(0+s)+(15 - g)) / 16=s by omega,show 15 - (16*(0+s)+(15 - g)) % 16=g by omega];exact htop
    . by_cases c:i / 16=s
      . rw [bit i (by omega),c];exact hup _ (by omega)
      . exact zero (i / 16) (by omega) (h2 _ (by omega)) i (by omega) rfl
theorem yc5 {a:Ar 10} (h:zac a=true):natM a:=by
  intro x hx;unfold zac at h;have:=ib.1 h x hx;unfold zwy at this;have:=zAe this;omega
def ltH (a b:Ar 10):Prop:=∃ i,i<160/\(∀ j,j<i->hbit a j=hbit b j)/\hbit a i=false/\hbit b i=true
structure Out (p:Pat) (l:List Pat) (h:Ar 10):Prop where
  right:zac h=true
  into:zap p h=true
  no:∀ q,q∈l->zap q h=false
structure zvi (p:Pat) (l:List Pat) (h:Ar 10):Prop where
  out:Out p l h
  least:∀ h',Out p l h'->¬ ltH h' h
def Res (p:Pat) (l:List Pat) (r:Ar 10×Bool):Prop:=(r.2=true/\zvi p l r.1)\/(r=(zA 10,false)/\∀ h,¬ Out p l h)
theorem zsm {a b:Ar 10} (ha:zac a=true) (hb:zac b=true):a=b\/ltH a b\/ltH b a:=by
  by_cases h:∃ i,i<160/\hbit a i≠hbit b i
  . right
    have key:∀ n,(∃ i,i<n/\hbit a i≠hbit b i)->∃ i,i<n/\(∀ j,j<i->hbit a j=hbit b j)/\hbit a i≠hbit b i:=by
      intro n
      induction n with
      |zero=>rintro ⟨i,hi,_⟩;omega
      |succ n ih =>
        rintro ⟨i,hi,hd⟩;by_cases h2:∃ i,i<n/\hbit a i≠hbit b i
        . obtain ⟨j,h3,h4,h5⟩:=ih h2;exact ⟨j,by omega,h4,h5⟩
        . refine ⟨i,hi,fun j hj=>?_,hd⟩;by_cases e:hbit a j=hbit b j
          . exact e
          . exact absurd ⟨j,by omega,e⟩ h2
    obtain ⟨i,h1,h2,h3⟩:=key 160 h
    cases e1:hbit a i with
    |false =>
      cases e2:hbit b i with
      |false=>rw [e1,e2] at h3;exact absurd rfl h3
      |true=>exact .inl ⟨i,h1,h2,e1,e2⟩
    |true =>
      cases e2:hbit b i with
      |true=>rw [e1,e2] at h3;exact absurd rfl h3
      |false=>exact .inr ⟨i,h1,fun j hj=>(h2 j hj).symm,e2,e1⟩
  . left
    exact zn6 ha hb fun i hi=>by
      by_cases e:hbit a i=hbit b i
      . exact e
      . exact absurd ⟨i,hi,e⟩ h
theorem zvi.uniq {p:Pat} {l:List Pat} {a b:Ar 10} (ha:zvi p l a) (hb:zvi p l b):a=b:=by
  rcases zsm ha.out.right hb.out.right with h|h|h
  . exact h
  . exact absurd h (hb.least _ ha.out)
  . exact absurd h (ha.least _ hb.out)
theorem Res.uniq {p:Pat} {l:List Pat} {r s:Ar 10×Bool} (hr:Res p l r) (hs:Res p l s):r=s:=by
  obtain ⟨r1,r2⟩:=r;obtain ⟨s1,s2⟩:=s;rcases hr with ⟨h1,h2⟩|⟨h1,h2⟩
  . rcases hs with ⟨h3,h4⟩|⟨h3,h4⟩
    . simp only at h1 h2 h3 h4;rw [h1,h3,h2.uniq h4]
    . exact absurd h2.out (h4 _)
  . rcases hs with ⟨h3,h4⟩|⟨h3,h4⟩
    . exact absurd h4.out (h2 _)
    . rw [h1,h3]
theorem zt1 {p q:Pat} {h:Ar 10} (hp:zap p h=true) (hq:zap q h=true):zdi p q=true :=
  zim.2 fun i hi h1 h2=>by rw [zas.1 hp i hi h1,zas.1 hq i hi h2]
theorem zjw {p r:Pat} {i:Nat} {b:Bool} {h:Ar 10} (hi:i<160) (hpi:hbit p.mask i=false) (hf:zyh p i b r):zap r h=true↔zap p h=true/\hbit h i=b:=by
  rw [zas,zas];constructor
  . intro hm;refine ⟨fun j hj h1=>?_,?_⟩
    . have hne:j≠i:=by intro e;rw [e,hpi] at h1;cases h1
      have:=hm j hj (by rw [hf.hm j hj,h1];simp);rw [hf.hb j hj,zAd hne] at this;exact this
    . have:=hm i hi (by rw [hf.hm i hi];simp);rw [hf.hb i hi,zAc rfl] at this;exact this.symm
  . rintro ⟨hm,hb⟩ j hj h1;rw [hf.hb j hj];by_cases e:j=i
    . rw [zAc e,e,hb]
    . rw [zAd e];rw [hf.hm j hj,zAb e,md] at h1;exact hm j hj h1
theorem z2l {p r:Pat} {i:Nat} {b:Bool} (hp:zaf p=true) (hf:zyh p i b r):zaf r=true:=by
  refine zah.2 ⟨hf.mask,hf.bits,fun j hj h1=>?_⟩;rw [hf.hm j hj];by_cases e:j=i
  . simp [e]
  . rw [hf.hb j hj,zAd e] at h1;rw [(zah.1 hp).2.2 j hj h1];simp
theorem zxh {p:Pat} {l:List Pat} (hp:zaf p=true) (hn:∀ q,q∈l->zdi p q=false):zvi p l p.bits:=by
  obtain ⟨pm,pb,pw⟩:=zah.1 hp;have hself:zap p p.bits=true:=zas.2 fun i _ _=>rfl;refine ⟨⟨pb,hself,fun q hq=>?_⟩,fun h' ho=>?_⟩
  . cases hm:zap q p.bits with
    |false=>rfl
    |true=>have:=zt1 hself hm;rw [hn q hq] at this;cases this
  . rintro ⟨i,hi,_,h1,h2⟩;have:=zas.1 ho.into i hi (pw i hi h2);rw [h1,h2] at this;cases this
theorem Out.near {p:Pat} {l:List Pat} {h:Ar 10}:Out p l h↔Out p (l.filter (zdi p)) h:=by
  constructor
  . exact fun ⟨a,b,c⟩=>⟨a,b,fun q hq=>c q (oy.1 hq).1⟩
  . refine fun ⟨a,b,c⟩=>⟨a,b,fun q hq=>?_⟩
    cases hm:zap q h with
    |false=>rfl
    |true =>
      have:=c q (oy.2 ⟨hq,zt1 b hm⟩);rw [hm] at this;cases this
theorem Res.join {p p0 p1:Pat} {l:List Pat} {i:Nat} {r0 r1:Ar 10×Bool} (hi:i<160) (hpi:hbit p.mask i=false) (h0:zyh p i false p0) (h1:zyh p i true p1)
    (ho:∀ q,q∈l->∀ j,j<i->zh2 q p j=false) (k0:Res p0 l r0) (k1:r0.2=false->Res p1 l r1):Res p l (if r0.2=true then (r0.1,true) else (r1.1,r1.2)):=by
  rcases k0 with ⟨a,b⟩|⟨a,b⟩
  . rw [zAc a];refine .inl ⟨rfl,⟨⟨b.out.right,((zjw hi hpi h0).1 b.out.into).1,b.out.no⟩,fun h' ho'=>?_⟩⟩;obtain ⟨bm,bi⟩:=(zjw hi hpi h0).1 b.out.into;rintro ⟨j,hj,e1,e2,e3⟩
    cases hb:hbit h' i with
    |false=>exact b.least h' ⟨ho'.right,(zjw hi hpi h0).2 ⟨ho'.into,hb⟩,ho'.no⟩ ⟨j,hj,e1,e2,e3⟩
    |true =>
      by_cases c1:j=i
      . subst c1;rw [bi] at e3;cases e3
      . by_cases c2:i<j
        . have:=e1 i c2;rw [hb,bi] at this;cases this
        . have hji:j<i:=by omega
          have hpj:hbit p.mask j=false:=by
            cases hm:hbit p.mask j with
            |false=>rfl
            |true =>
              have x1:=zas.1 ho'.into j hj hm;have x2:=zas.1 bm j hj hm;rw [x1,e2] at x2;rw [e3] at x2;cases x2
          obtain ⟨c3,c4⟩:=yki b.out.right hj;generalize r0.1.set ((j / 16:Nat):Int) _=h2 at c3 c4;refine b.least h2 ⟨c3,?_,fun q hq=>?_⟩ ⟨j,hj,fun s hs=>?_,?_,e3⟩
          . refine (zjw hi hpi h0).2 ⟨zas.2 fun s hs hm=>?_,?_⟩
            . have hne:s≠j:=by intro e;rw [e,hpj] at hm;cases hm
              rw [c4 s hs,zAb hne,il,jy];exact zas.1 bm s hs hm
            . rw [c4 i hi,zAb (by omega),il,jy];exact bi
          . have hqj:hbit q.mask j=false:=by
              have:=ho q hq j hji;unfold zh2 at this;rw [hpj] at this;simpa using this
            cases hm:zap q h2 with
            |false=>rfl
            |true =>
              have:zap q r0.1=true:=zas.2 fun s hs hms=>by
                have hne:s≠j:=by intro e;rw [e,hqj] at hms;cases hms
                have x:=zas.1 hm s hs hms;rw [c4 s hs,zAb hne,il,jy] at x;exact x
              rw [b.out.no q hq] at this;cases this
          . rw [c4 s (by omega),zAb (by omega),il,jy]
          . rw [c4 j hj];simp
  . subst a;rw [zAd (by simp)];have k:=k1 rfl
    have split:∀ h,Out p l h->Out p1 l h:=fun h ho'=>by
      cases hb:hbit h i with
      |false=>exact absurd ⟨ho'.right,(zjw hi hpi h0).2 ⟨ho'.into,hb⟩,ho'.no⟩ (b h)
      |true=>exact ⟨ho'.right,(zjw hi hpi h1).2 ⟨ho'.into,hb⟩,ho'.no⟩
    rcases k with ⟨c,d⟩|⟨c,d⟩
    . exact .inl ⟨c,⟨⟨d.out.right,((zjw hi hpi h1).1 d.out.into).1,d.out.no⟩,fun h' ho'=>d.least h' (split h' ho')⟩⟩
    . exact .inr ⟨by rw [c],fun h ho'=>d h (split h ho')⟩
theorem z7b {P:Nat->Prop}:∀ n,(∃ i,i<n/\P i)->∃ i,i<n/\P i/\∀ j,j<i->¬ P j
  |0,⟨i,hi,_⟩=>by omega
  |n+1,⟨i,hi,hp⟩=>by
    by_cases h:∃ i,i<n/\P i
    . obtain ⟨j,h1,h2,h3⟩:=z7b n h;exact ⟨j,by omega,h2,h3⟩
    . exact ⟨i,hi,hp,fun j hj hpj=>h ⟨j,by omega,hpj⟩⟩
theorem z83 {a b:Nat} (ha:a<65536) (hb:b<65536) (h:a≠b):∃ t,t<16/\(∀ s,t<s->a.testBit s=b.testBit s)/\a.testBit t≠b.testBit t:=by
  have hex:∃ u,u<16/\a.testBit (15 - u)≠b.testBit (15 - u):=by
    refine js fun hn=>h (zsb ha hb fun t ht=>?_);refine js fun hd=>hn ⟨15 - t,by omega,?_⟩;rw [show 15 - (15 - t)=t by omega];exact hd
  obtain ⟨u,h1,h2,h3⟩:=z7b 16 hex;refine ⟨15 - u,by omega,fun s hs=>?_,h2⟩;by_cases hs16:s<16
  . have:=h3 (15 - s) (by omega);rw [show 15 - (15 - s)=s by omega] at this;exact js this
  . have e:65536<=2 ^ s:=lz (n:=2) (by decide) (show 16<=s by omega);rw [mo (gr ha e),mo (gr hb e)]
theorem z9r {a b t:Nat} (ha:a.testBit t=false) (hb:b.testBit t=true) (hs:∀ s,t<s->a.testBit s=b.testBit s):a<b:=by
  have e:a / 2 ^ (t+1)=b / 2 ^ (t+1):=by
    apply n4;intro i;rw [Nat.testBit_div_two_pow,Nat.testBit_div_two_pow];exact hs _ (by omega)
  rw [sn,<- Nat.div_div_eq_div_mul,<- Nat.div_div_eq_div_mul] at e;rw [Nat.testBit_eq_decide_div_mod_eq] at ha hb;have ha':=of_decide_eq_false ha;have hb':=zAe hb;apply Nat.lt_of_not_le;intro h;have:=Nat.div_le_div_right (c:=2 ^ t) h;omega
theorem zpv {a b:Ar 10} (ha:zac a=true) (hb:zac b=true) {j:Nat} (hj:j<10) (he:∀ i,i<j->hw a i=hw b i) (hl:hw a j<hw b j):ltH a b:=by
  obtain ⟨t,h1,h2,h3⟩:=z83 (zbf ha hj).2 (zbf hb hj).2 (by omega)
  have hat:(hw a j).testBit t=false/\(hw b j).testBit t=true:=by
    cases e1:(hw a j).testBit t with
    |false =>
      cases e2:(hw b j).testBit t with
      |false=>rw [e1,e2] at h3;exact absurd rfl h3
      |true=>exact ⟨rfl,rfl⟩
    |true =>
      cases e2:(hw b j).testBit t with
      |true=>rw [e1,e2] at h3;exact absurd rfl h3
      |false =>
        have:=z9r e2 e1 fun s hs=>(h2 s hs).symm;omega
  refine ⟨16*j+(15 - t),by omega,fun s hs=>?_,?_,?_⟩
  . unfold hbit;by_cases c:s / 16=j
    . rw [c];exact h2 _ (by omega)
    . rw [he (s / 16) (by omega)]
  . rw [zkr a hj h1];exact hat.1
  . rw [zkr b hj h1];exact hat.2
theorem zn3 {a:Ar 10}:¬ ltH a a:=by
  rintro ⟨i,_,_,h1,h2⟩;rw [h1] at h2;cases h2
theorem z13 {a b:Ar 10} (h:ltH a b):¬ ltH b a:=by
  obtain ⟨i,h1,h2,h3,h4⟩:=h;rintro ⟨j,k1,k2,k3,k4⟩;rcases nu i j with c|c|c
  . have:=k2 i c;rw [h3,h4] at this;cases this
  . subst c;rw [h3] at k4;cases k4
  . have:=h2 j c;rw [k3,k4] at this;cases this
theorem zpw {a b c:Ar 10} (h:ltH a b) (k:ltH b c):ltH a c:=by
  obtain ⟨i,h1,h2,h3,h4⟩:=h;obtain ⟨j,k1,k2,k3,k4⟩:=k;rcases nu i j with e|e|e
  . exact ⟨i,h1,fun s hs=>by rw [h2 s hs,k2 s (by omega)],h3,by rw [<- k2 i e];exact h4⟩
  . subst e;rw [h4] at k3;cases k3
  . exact ⟨j,k1,fun s hs=>by rw [h2 s (by omega),k2 s hs],by rw [h2 j e];exact k3,k4⟩
def Cmp (a b:Ar 10) (c:Int):Prop:=(c=-1/\ltH a b)\/(c=1/\ltH b a)\/(c=0/\a=b)
theorem Cmp.neg {a b:Ar 10} {c:Int} (h:Cmp a b c):c<0↔ltH a b:=by
  rcases h with ⟨rfl,h⟩|⟨rfl,h⟩|⟨rfl,rfl⟩
  . exact ⟨fun _=>h,fun _=>by decide⟩
  . exact ⟨fun q=>absurd q (by decide),fun q=>absurd q (z13 h)⟩
  . exact ⟨fun q=>absurd q (by decide),fun q=>absurd q zn3⟩
theorem Cmp.pos {a b:Ar 10} {c:Int} (h:Cmp a b c):0<c↔ltH b a:=by
  rcases h with ⟨rfl,h⟩|⟨rfl,h⟩|⟨rfl,rfl⟩
  . exact ⟨fun q=>absurd q (by decide),fun q=>absurd q (z13 h)⟩
  . exact ⟨fun _=>h,fun _=>by decide⟩
  . exact ⟨fun q=>absurd q (by decide),fun q=>absurd q zn3⟩
theorem zmc {k:Nat} {a b:Ar 10} (ha:zac a=true) (hb:zac b=true) (hk:10<k):∃ c,zdd k a b=some c/\Cmp a b c:=by
  have key:∀ m j,j<=10->10 - j<m->(∀ i,i<j->hw a i=hw b i)->∃ o,zbj k a b m (j:Int)=some o/\((∃ c,o=.inl c/\Cmp a b c)\/(o=.inr ()/\a=b)):=by
    intro m
    induction m with
    |zero=>intro j h1 h2;omega
    |succ m ih =>
      intro j h1 h2 h3;rw [zbj];by_cases c:j<10
      . obtain ⟨a1,a2⟩:=zbf ha c;obtain ⟨b1,b2⟩:=zbf hb c;rw [zAc (lt10 c),zAc ⟨by omega,lt10 c⟩,a1,b1,za4 j (by omega)];by_cases c1:hw a j<hw b j
        . rw [zAc (zaq c1)];exact ⟨_,rfl,.inl ⟨_,rfl,.inl ⟨rfl,zpv ha hb c h3 c1⟩⟩⟩
        . rw [zAd (by omega)];by_cases c2:hw b j<hw a j
          . rw [zAc (zaq c2)];exact ⟨_,rfl,.inl ⟨_,rfl,.inr (.inl ⟨rfl,zpv hb ha c (fun i hi=>(h3 i hi).symm) c2⟩)⟩⟩
          . rw [zAd (by omega)]
            exact ih (j+1) (by omega) (by omega) fun i hi=>by
              by_cases e:i<j
              . exact h3 i e
              . obtain rfl:i=j:=by omega
                omega
      . obtain rfl:j=10:=by omega
        rw [zAd (by decide)];refine ⟨_,rfl,.inr ⟨rfl,zn6 ha hb fun i hi=>?_⟩⟩;unfold hbit;rw [h3 (i / 16) (by omega)]
  obtain ⟨o,e,h⟩:=key k 0 (by omega) (by omega) (fun i hi=>by omega);unfold zdd;rw [show ((0:Nat):Int)=0 from rfl] at e;rw [e,ff];rcases h with ⟨c,rfl,h⟩|⟨rfl,h⟩
  . exact ⟨c,rfl,h⟩
  . exact ⟨0,rfl,.inr (.inr ⟨rfl,h⟩)⟩
structure Meet (p q r:Pat):Prop where
  mask:zac r.mask=true
  bits:zac r.bits=true
  hm:∀ j,j<160->hbit r.mask j=(hbit p.mask j || hbit q.mask j)
  hb:∀ j,j<160->hbit r.bits j=if hbit q.mask j=true then hbit q.bits j else hbit p.bits j
theorem zqk {a:Bool}:((a.toNat:Int)=0)↔a=false:=by cases a<;>decide
structure AndI (p q:Pat) (i:Nat) (x y:Ar 10):Prop where
  rx:zac x=true
  ry:zac y=true
  hx:∀ j,j<160->hbit x j=(hbit p.mask j || (decide (j<i) && hbit q.mask j))
  hy:∀ j,j<160->hbit y j=if (decide (j<i) && hbit q.mask j)=true then hbit q.bits j else hbit p.bits j
  ok:∀ j,j<i->hbit p.mask j=true->hbit q.mask j=true->hbit p.bits j=hbit q.bits j
theorem ycg {k:Nat} {p q:Pat} (hp:zaf p=true) (hq:zaf q=true) (hk:160<k):∃ r,znv k p q=some r/\((zdi p q=false/\r.2=false)\/(zdi p q=true/\r.2=true/\Meet p q r.1)):=by
  obtain ⟨pm,pb,pw⟩:=zah.1 hp;obtain ⟨qm,qb,qw⟩:=zah.1 hq
  have key:∀ m i x y,i<=160->160 - i<m->AndI p q i x y->∃ o,zfp k q m (i:Int) x y=some o/\((∃ r,o=.inl r/\r.2=false/\zdi p q=false)\/∃ x y,o=.inr (x,y)/\AndI p q 160 x y):=by
    intro m
    induction m with
    |zero=>intro i x y h1 h2;omega
    |succ m ih =>
      intro i x y h1 h2 hI;rw [zfp];by_cases c:i<160
      . rw [zAc (ydb c),zgh qm c (by omega),ff,za4 i (by omega)];by_cases c1:hbit q.mask i=false
        . rw [zAc (zqk.2 c1)]
          have hd:∀ j,(decide (j<i+1) && hbit q.mask j)=(decide (j<i) && hbit q.mask j):=fun j=>by
            by_cases e:j=i
            . subst e;rw [c1];simp
            . rw [show decide (j<i+1)=decide (j<i) from decide_eq_decide.2 (by omega)]
          refine ih (i+1) x y (by omega) (by omega) ⟨hI.rx,hI.ry,fun j hj=>by rw [hd,hI.hx j hj],fun j hj=>by rw [hd,hI.hy j hj],fun j hj h3 h4=>?_⟩;by_cases e:j=i
          . rw [e,c1] at h4;cases h4
          . exact hI.ok j (by omega) h3 h4
        . have c1':hbit q.mask i=true:=by simpa using c1
          have xi:hbit x i=hbit p.mask i:=by rw [hI.hx i c];simp
          have yi:hbit y i=hbit p.bits i:=by rw [hI.hy i c,zAd (by simp)]
          rw [zAd (fun h=>c1 (zqk.1 h)),zgh hI.rx c (by omega),ff,zgh hI.ry c (by omega),ff,zgh qb c (by omega),ff,xi,yi];by_cases c2:hbit p.mask i=true/\hbit p.bits i≠hbit q.bits i
          . rw [zAc (zl3.2 c2.1),ff,zAc (zAa (z0b.2 c2.2))];refine ⟨_,rfl,.inl ⟨_,rfl,rfl,?_⟩⟩
            cases ho:zdi p q with
            |false=>rfl
            |true=>exact absurd (zim.1 ho i c c2.1 c1') c2.2
          . have e2:(if ((hbit p.mask i).toNat:Int)=1 then some (decide (((hbit p.bits i).toNat:Int)≠((hbit q.bits i).toNat:Int))) else some false)=some false:=by
              by_cases c3:hbit p.mask i=true
              . have:hbit p.bits i=hbit q.bits i:=js fun h=>c2 ⟨c3,h⟩;rw [zAc (zl3.2 c3),zAb (fun h=>(z0b.1 h) this)]
              . rw [zAd (fun h=>c3 (zl3.1 h))]
            rw [e2,ff,zAd (by simp)];obtain ⟨x2,s1,s2,s3⟩:=zj6 (k:=k) (b:=true) hI.rx c (by omega);obtain ⟨y2,t1,t2,t3⟩:=zj6 (k:=k) (b:=hbit q.bits i) hI.ry c (by omega);have s1':zfi k x (i:Int) 1=some x2:=s1;rw [s1',ff,ff,t1,ff];refine ih (i+1) x2 y2 (by omega) (by omega) ⟨s2,t2,fun j hj=>?_,fun j hj=>?_,fun j hj h3 h4=>?_⟩
            . rw [s3 j hj];by_cases e:j=i
              . subst e;rw [zAc rfl,c1'];simp
              . rw [zAd e,hI.hx j hj,show decide (j<i+1)=decide (j<i) from decide_eq_decide.2 (by omega)]
            . rw [t3 j hj];by_cases e:j=i
              . subst e;rw [zAc rfl,c1',zAc (by simp)]
              . rw [zAd e,hI.hy j hj,show decide (j<i+1)=decide (j<i) from decide_eq_decide.2 (by omega)]
            . by_cases e:j=i
              . subst e;exact js fun h=>c2 ⟨h3,h⟩
              . exact hI.ok j (by omega) h3 h4
      . obtain rfl:i=160:=by omega
        rw [zAd (by decide)];exact ⟨_,rfl,.inr ⟨x,y,rfl,hI⟩⟩
  obtain ⟨o,e,h⟩:=key k 0 p.mask p.bits (by omega) (by omega) ⟨pm,pb,fun j hj=>by simp,fun j hj=>by simp,fun j hj=>by omega⟩;unfold znv;rw [show ((0:Nat):Int)=0 from rfl] at e;rw [e,ff];rcases h with ⟨r,rfl,h1,h2⟩|⟨x,y,rfl,hI⟩
  . exact ⟨r,rfl,.inl ⟨h2,h1⟩⟩
  . refine ⟨_,rfl,.inr ⟨zim.2 fun i hi=>hI.ok i hi,rfl,hI.rx,hI.ry,fun j hj=>?_,fun j hj=>?_⟩⟩
    . rw [hI.hx j hj];simp [hj]
    . rw [hI.hy j hj];simp [hj]
theorem z4d {k:Nat} {p q:Pat} (hp:zaf p=true) (hq:zaf q=true) (hk:160<k):zih k p q=some (zdi p q):=by
  obtain ⟨r,e,h⟩:=ycg hp hq hk;unfold zih;rw [e,ff];rcases h with ⟨h1,h2⟩|⟨h1,h2,_⟩<;>rw [h1,h2]
def yag (q:Pat) (i:Nat) (h:Ar 10):Prop:=∀ j,j<i->hbit q.mask j=true->hbit h j=hbit q.bits j
def Part (p q:Pat) (i:Nat) (r:Pat):Prop:=∀ h,zap r h=true↔zap p h=true/\yag q i h/\hbit h i≠hbit q.bits i
theorem z4p {p q:Pat} {i:Nat} {x y h:Ar 10} (hI:AndI p q i x y) (hi:i<=160):(∀ j,j<160->hbit x j=true->hbit y j=hbit h j)↔zap p h=true/\yag q i h:=by
  rw [zas];constructor
  . intro hm
    have ag:yag q i h:=fun j hj h1=>by
      have:=hm j (by omega) (by rw [hI.hx j (by omega),h1];simp [hj]);rw [hI.hy j (by omega),zAc (by simp [hj,h1])] at this;exact this.symm
    refine ⟨fun j hj h1=>?_,ag⟩;by_cases c:j<i/\hbit q.mask j=true
    . rw [hI.ok j c.1 h1 c.2];exact (ag j c.1 c.2).symm
    . have:=hm j hj (by rw [hI.hx j hj,h1];rfl);rw [hI.hy j hj,zAd (by simp only [fj,decide_eq_true_eq];exact c)] at this;exact this
  . rintro ⟨hm,ag⟩ j hj h1;rw [hI.hy j hj];by_cases c:j<i/\hbit q.mask j=true
    . rw [zAc (by simp [c.1,c.2])];exact (ag j c.1 c.2).symm
    . rw [zAd (by simp only [fj,decide_eq_true_eq];exact c)];rw [hI.hx j hj] at h1;refine hm j hj ?_;rcases Bool.or_eq_true _ _ |>.mp h1 with h2|h2
      . exact h2
      . simp only [fj,decide_eq_true_eq] at h2;exact absurd h2 c
structure yhn (p q:Pat) (i:Nat) (l:List Pat):Prop where
  len:l.length<=i
  right:∀ r,r∈l->zaf r=true
  mask:∀ r,r∈l->∀ j,j<160->hbit r.mask j=true->hbit p.mask j=true\/hbit q.mask j=true
  part:∀ r,r∈l->∃ j,j<i/\hbit q.mask j=true/\Part p q j r
  all:∀ h,zap p h=true->¬ yag q i h->∃ r,r∈l/\zap r h=true
  apart:l.Pairwise fun r s=>∀ h,¬ (zap r h=true/\zap s h=true)
theorem yhr {k:Nat} {p q:Pat} (hp:zaf p=true) (hq:zaf q=true) (hk:160<k):∀ m i x y l,i<=160->160 - i<m->AndI p q i x y->(∀ j,i<=j->j<160->hbit p.mask j=true->hbit q.mask j=true->hbit p.bits j=hbit q.bits j)->yhn p q i l ->
    ∃ x' y' l',zdv k q m (i:Int) x y l l.length=some (x',y',l',l'.length)/\yhn p q 160 l':=by
  obtain ⟨pm,pb,pw⟩:=zah.1 hp;obtain ⟨qm,qb,qw⟩:=zah.1 hq;intro m
  induction m with
  |zero=>intro i x y l h1 h2;omega
  |succ m ih =>
    intro i x y l h1 h2 hI hov hP;rw [zdv];by_cases c:i<160
    . rw [zAc (ydb c),zgh qm c (by omega),ff,za4 i (by omega)];have xi:hbit x i=hbit p.mask i:=by rw [hI.hx i c];simp
      have yi:hbit y i=hbit p.bits i:=by rw [hI.hy i c,zAd (by simp)]
      -- one bit further without a new part
      have stay:(hbit q.mask i=true->hbit p.mask i=true)->∀ x2 y2,(∀ j,j<160->hbit x2 j=hbit x j)->(∀ j,j<160->hbit y2 j=hbit y j)->zac x2=true->zac y2=true->AndI p q (i+1) x2 y2/\yhn p q (i+1) l:=fun hqp x2 y2 hx2 hy2 r1 r2=>by
        refine ⟨⟨r1,r2,fun j hj=>?_,fun j hj=>?_,fun j hj h3 h4=>?_⟩,⟨Nat.le_succ_of_le hP.len,hP.right,hP.mask,fun r hr=>?_,fun h hm hn=>?_,hP.apart⟩⟩
        . rw [hx2 j hj,hI.hx j hj];by_cases e:j=i
          . subst e
            cases hqi:hbit q.mask j with
            |false=>simp
            |true=>rw [hqp hqi];rfl
          . rw [show decide (j<i+1)=decide (j<i) from decide_eq_decide.2 (by omega)]
        . rw [hy2 j hj,hI.hy j hj];by_cases e:j=i
          . subst e;rw [zAd (by simp)]
            cases hqi:hbit q.mask j with
            |false=>rw [zAd (by simp)]
            |true=>rw [zAc (by simp)];exact hov j (fp _) hj (hqp hqi) hqi
          . rw [show decide (j<i+1)=decide (j<i) from decide_eq_decide.2 (by omega)]
        . by_cases e:j=i
          . subst e;exact hov j (fp _) c h3 h4
          . exact hI.ok j (by omega) h3 h4
        . obtain ⟨j,q1,q2,q3⟩:=hP.part r hr;exact ⟨j,by omega,q2,q3⟩
        . refine hP.all h hm fun ag=>hn fun j hj hmj=>?_;by_cases e:j=i
          . subst e;rw [<- zas.1 hm j c (hqp hmj)];exact hov j (fp _) c (hqp hmj) hmj
          . exact ag j (by omega) hmj
      by_cases c1:hbit q.mask i=false
      . rw [zAc (zqk.2 c1),ff,zAc rfl];obtain ⟨a,b⟩:=stay (fun h=>by rw [c1] at h;cases h) x y (fun _ _=>rfl) (fun _ _=>rfl) hI.rx hI.ry;exact ih (i+1) x y l (by omega) (by omega) a (fun j hj=>hov j (by omega)) b
      . have c1':hbit q.mask i=true:=by simpa using c1
        rw [zAd (fun h=>c1 (zqk.1 h)),zgh hI.rx c (by omega),ff,ff,xi];by_cases c2:hbit p.mask i=true
        . rw [zAc (zAa (zl3.2 c2))];obtain ⟨a,b⟩:=stay (fun _=>c2) x y (fun _ _=>rfl) (fun _ _=>rfl) hI.rx hI.ry;exact ih (i+1) x y l (by omega) (by omega) a (fun j hj=>hov j (by omega)) b
        . have c2':hbit p.mask i=false:=by simpa using c2
          rw [zAd (by rw [decide_eq_true_eq];exact fun h=>c2 (zl3.1 h)),zgh qb c (by omega),ff];obtain ⟨x2,s1,s2,s3⟩:=zj6 (k:=k) (b:=true) hI.rx c (by omega);obtain ⟨y2,t1,t2,t3⟩:=zj6 (k:=k) (b:=!hbit q.bits i) hI.ry c (by omega);obtain ⟨y3,u1,u2,u3⟩:=zj6 (k:=k) (b:=hbit q.bits i) t2 c (by omega);have s1':zfi k x (i:Int) 1=some x2:=s1;have ew:fi.wrap (1 - ((hbit q.bits i).toNat:Int))=((!hbit q.bits i).toNat:Int):=by cases hbit q.bits i<;>decide
          have hl160:=hP.len;rw [s1',ff,ew,t1,ff,zAc (by omega),u1,ff]
          have hrp:zaf ⟨x2,y2⟩=true:=zah.2 ⟨s2,t2,fun j hj h1=>by
            show hbit x2 j=true;have h1':hbit y2 j=true:=h1;rw [s3 j hj];rw [t3 j hj] at h1';by_cases e:j=i
            . rw [zAc e]
            . rw [zAd e] at h1' ⊢;rw [hI.hy j hj] at h1';rw [hI.hx j hj];by_cases cq:(decide (j<i) && hbit q.mask j)=true
              . rw [cq];simp
              . rw [zAd cq] at h1'
                rw [pw j hj h1'];rfl⟩
          have hpart:Part p q i ⟨x2,y2⟩:=fun h=>by
            rw [zas,<- and_assoc,<- z4p hI (by omega)];constructor
            . intro hm;refine ⟨fun j hj h1=>?_,?_⟩
              . have hne:j≠i:=by intro e;rw [e,xi,c2'] at h1;cases h1
                have:=hm j hj (show hbit x2 j=true by rw [s3 j hj,zAd hne];exact h1);change hbit y2 j=_ at this;rw [t3 j hj,zAd hne] at this;exact this
              . have:=hm i c (show hbit x2 i=true by rw [s3 i c,zAc rfl]);change hbit y2 i=_ at this;rw [t3 i c,zAc rfl] at this;rw [<- this];cases hbit q.bits i<;>simp
            . rintro ⟨hm,hd⟩ j hj h1;change hbit x2 j=true at h1;show hbit y2 j=hbit h j;rw [t3 j hj];by_cases e:j=i
              . rw [zAc e,e];revert hd;cases hbit q.bits i<;>cases hbit h i<;>simp
              . rw [zAd e];rw [s3 j hj,zAd e] at h1;exact hm j hj h1
          have hA : AndI p q (i + 1) x2 y3 := ⟨s2, u2, fun j hj => by
              rw [s3 j hj];by_cases e:j=i
              . subst e;rw [zAc rfl,c1'];simp
              . rw [zAd e,hI.hx j hj,show decide (j<i+1)=decide (j<i) from decide_eq_decide.2 (by omega)],fun j hj=>by
              rw [u3 j hj];by_cases e:j=i
              . subst e;rw [zAc rfl,c1',zAc (by simp)]
              . rw [zAd e,t3 j hj,zAd e,hI.hy j hj,show decide (j<i+1)=decide (j<i) from decide_eq_decide.2 (by omega)],fun j hj h3 h4=>by
              by_cases e:j=i
              . rw [e,c2'] at h3;cases h3
              . exact hI.ok j (by omega) h3 h4⟩
          have hPs:yhn p q (i+1) (l++[⟨x2,y2⟩]):=by
            refine ⟨by rw [fx,ip];omega,fun r hr=>?_,fun r hr j hj h1=>?_,fun r hr=>?_,fun h hm hn=>?_,?_⟩
            . rcases io.1 hr with h|h
              . exact hP.right r h
              . cases gu.1 h;exact hrp
            . rcases io.1 hr with h|h
              . exact hP.mask r h j hj h1
              . cases gu.1 h;change hbit x2 j=true at h1;rw [s3 j hj] at h1;by_cases e:j=i
                . subst e;exact .inr c1'
                . rw [zAd e,hI.hx j hj] at h1;rcases Bool.or_eq_true _ _ |>.mp h1 with h2|h2
                  . exact .inl h2
                  . simp only [fj] at h2;exact .inr h2.2
            . rcases io.1 hr with h|h
              . obtain ⟨j,q1,q2,q3⟩:=hP.part r h;exact ⟨j,by omega,q2,q3⟩
              . cases gu.1 h;exact ⟨i,by omega,c1',hpart⟩
            . by_cases ag:yag q i h
              . refine ⟨_,io.2 (.inr (gu.2 rfl)),(hpart h).2 ⟨hm,ag,fun e=>hn fun j hj hmj=>?_⟩⟩;by_cases e2:j=i
                . rw [e2];exact e
                . exact ag j (by omega) hmj
              . obtain ⟨r,h3,h4⟩:=hP.all h hm ag;exact ⟨r,io.2 (.inl h3),h4⟩
            . refine List.pairwise_append.2 ⟨hP.apart,List.pairwise_singleton _ _,fun r hr s hs h=>?_⟩;cases gu.1 hs;rintro ⟨h3,h4⟩;obtain ⟨j,q1,q2,q3⟩:=hP.part r hr;exact ((q3 h).1 h3).2.2 (((hpart h).1 h4).2.1 j q1 q2)
          have:=ih (i+1) x2 y3 _ (by omega) (by omega) hA (fun j hj=>hov j (by omega)) hPs;rw [fx,ip] at this;exact this
    . obtain rfl:i=160:=by omega
      rw [zAd (by decide)];exact ⟨_,_,_,rfl,hP⟩
structure Diff (p q:Pat) (l:List Pat):Prop where
  len:l.length<=160
  right:∀ r,r∈l->zaf r=true
  mask:∀ r,r∈l->∀ j,j<160->hbit r.mask j=true->hbit p.mask j=true\/hbit q.mask j=true
  heads:∀ h,(∃ r,r∈l/\zap r h=true)↔zap p h=true/\zap q h=false
  apart:l.Pairwise fun r s=>∀ h,¬ (zap r h=true/\zap s h=true)
theorem yff {q:Pat} {h:Ar 10}:yag q 160 h↔zap q h=true:=by
  rw [zas];exact ⟨fun a i hi hm=>(a i hi hm).symm,fun a i hi hm=>(a i hi hm).symm⟩
theorem ycd {k:Nat} {p q:Pat} (hp:zaf p=true) (hq:zaf q=true) (hk:160<k):∃ l,zk9 k p q=some l/\Diff p q l:=by
  unfold zk9;rw [z4d hp hq hk,ff]
  cases ho:zdi p q with
  |false =>
    rw [zAd (by simp)];refine ⟨_,rfl,by simp,fun r hr=>by cases gu.1 hr;exact hp,fun r hr j hj h1=>by cases gu.1 hr;exact .inl h1,fun h=>?_,List.pairwise_singleton _ _⟩;constructor
    . rintro ⟨r,hr,hm⟩;cases gu.1 hr;refine ⟨hm,?_⟩
      cases hqm:zap q h with
      |false=>rfl
      |true=>have:=zt1 hm hqm;rw [ho] at this;cases this
    . rintro ⟨hm,_⟩;exact ⟨p,gu.2 rfl,hm⟩
  |true =>
    obtain ⟨pm,pb,pw⟩:=zah.1 hp;rw [zAc rfl];obtain ⟨x,y,l,e,hP⟩:=yhr (k:=k) hp hq hk k 0 p.mask p.bits [] (by omega) (by omega) ⟨pm,pb,fun j hj=>by simp,fun j hj=>by simp,fun j hj=>by omega⟩ (fun j _ hj h1 h2=>zim.1 ho j hj h1 h2) ⟨by simp,fun r hr=>by simp at hr,fun r hr=>by simp at hr,fun r hr=>by simp at hr,fun h hm hn=>absurd (fun j hj=>by omega) hn,List.Pairwise.nil⟩;rw [show ((0:Nat):Int)=0 from rfl] at e;rw [show (([]:List Pat).length)=0 from rfl] at e;rw [e,ff,zAc rfl];refine ⟨l,rfl,hP.len,hP.right,hP.mask,fun h=>?_,hP.apart⟩;constructor
    . rintro ⟨r,hr,hm⟩;obtain ⟨j,q1,q2,q3⟩:=hP.part r hr;obtain ⟨k1,k2,k3⟩:=(q3 h).1 hm;refine ⟨k1,?_⟩
      cases hqm:zap q h with
      |false=>rfl
      |true=>exact absurd (zas.1 hqm j q1 q2).symm k3
    . rintro ⟨hm,hn⟩;exact hP.all h hm fun a=>by rw [yff.1 a] at hn;cases hn
theorem yf1 {α:Type} (e:α) (f:Nat->α):rngF [] e f=e:=rfl
theorem yb5 {α:Type} (x:Nat) (r:List Nat) (e:α) (f:Nat->α):rngF (x :: r) e f=f x:=rfl
theorem z42 {α:Type} (g:α->Bool) {l:List α} {i:Nat} (h:i<l.length):(l.take (i+1)).filter g=(l.take i).filter g++(if g l[i]=true then [l[i]] else []):=by
  rw [List.take_add_one,fk h,Option.toList_some,List.filter_append];cases hg:g l[i]<;>simp [hg]
def yo1 (p:Pat) (l:List Pat) (o:(Ar 10×Bool) ⊕ (Int×List Pat×Nat)):Prop :=
  (o=.inl (zA 10,false)/\∃ q,q∈l/\zdi p q=true/\∀ i,i<160->zh2 q p i=false) \/
  ∃ a:Nat,o=.inr ((a:Int),l.filter (zdi p),(l.filter (zdi p)).length)/\(∀ q,q∈l.filter (zdi p)->∀ i,i<a->zh2 q p i=false)/\(l.filter (zdi p)≠[]->a<160/\∃ q,q∈l.filter (zdi p)/\zh2 q p a=true)
theorem ybq {k:Nat} {p:Pat} {l:List Pat} (hp:zaf p=true) (hl:∀ q,q∈l->zaf q=true) (hlen:l.length<=1000) (hk:big<=k):∃ o,za0 k p l k 160 0 [] 0=some o/\yo1 p l o:=by
  have key : ∀ m i (a : Nat), i <= l.length -> l.length - i < m -> a <= 160 -> (∀ q, q ∈ (l.take i).filter (zdi p) -> ∀ j, j < a -> zh2 q p j = false) -> ((l.take i).filter (zdi p) = [] -> a = 160) -> ((l.take i).filter (zdi p) ≠ [] -> a < 160 /\ ∃ q, q ∈ (l.take i).filter (zdi p) /\ zh2 q p a = true) ->
      ∃ o,za0 k p l m (a:Int) (i:Int) ((l.take i).filter (zdi p)) ((l.take i).filter (zdi p)).length=some o/\yo1 p l o:=by
    intro m
    induction m with
    |zero=>intro i a h1 h2;omega
    |succ m ih =>
      intro i a h1 h2 ha hI hE hN;rw [za0];by_cases c:i<l.length
      . have hq:=hl _ (ju c);have hn:((l.take i).filter (zdi p)).length<=1000:=jv (nj _ _) (by rw [List.length_take];omega);have hf:=z42 (zdi p) c;rw [zAc (zaq c),zAc ⟨by omega,zaq c⟩,zd8 c,zr4 hp hq (by simp only [big] at hk;omega),ff,za4 i (by omega)]
        cases ho:zdi p l[i] with
        |false =>
          rw [zAd (by simp)];rw [ho,zAd (by simp),gt] at hf;have:=ih (i+1) a (by omega) (by omega) ha;rw [hf] at this;exact this hI hE hN
        |true =>
          rw [ho,zAc rfl] at hf;rw [zAc rfl,zAc (by omega),zAc (yc5 (zah.1 hq).1),zAc (yc5 (zah.1 hp).1)];rcases z9n (zah.1 hq).1 (zah.1 hp).1 with ⟨e1,e2⟩|⟨x,r,e1,e2,e3,e4⟩
          . rw [e1,yf1,zAc (by decide)];exact ⟨_,rfl,.inl ⟨rfl,_,ju c,ho,e2⟩⟩
          . rw [e1,yb5,zAd (by omega),show min (a:Int) (x:Int)=((min a x:Nat):Int) by omega];have:=ih (i+1) (min a x) (by omega) (by omega) (by omega);rw [hf,fx,ip] at this;refine this (fun q hq j hj=>?_) (fun h=>by simp at h) (fun _=>⟨by omega,?_⟩)
            . rcases io.1 hq with h|h
              . exact hI q h j (by omega)
              . cases gu.1 h;exact e4 j (by omega)
            . by_cases cx:x<=a
              . exact ⟨_,io.2 (.inr (gu.2 rfl)),by rw [Nat.min_eq_right cx];exact e3⟩
              . rw [Nat.min_eq_left (by omega)];have hne:(l.take i).filter (zdi p)≠[]:=fun h=>by have:=hE h;omega
                obtain ⟨_,q,h3,h4⟩:=hN hne;exact ⟨q,io.2 (.inl h3),h4⟩
      . obtain rfl:i=l.length:=by omega
        rw [zAd (by omega)];rw [List.take_length] at hI hN ⊢;exact ⟨_,rfl,.inr ⟨a,rfl,hI,hN⟩⟩
  exact key k 0 160 (ir _) (by simp only [big] at hk;omega) (fp _) (fun q hq=>by simp at hq) (fun _=>rfl) (fun h=>absurd rfl h)
theorem ybp {k:Nat} (hk:big<=k):∀ (m c:Nat) (p:Pat) (l:List Pat),c<=160->161 - c<=m->zaf p=true->(∀ q,q∈l->zaf q=true)->l.length<=1000->(∀ q,q∈l->∀ i,i<c->zh2 q p i=false)->∃ r,zbv k m p l=some r/\Res p l r:=by
  intro m
  induction m with
  |zero=>intro c p l h1 h2;omega
  |succ m ih =>
    intro c p l h1 h2 hp hl hlen hc;rw [zbv];obtain ⟨o,e,hF⟩:=ybq hp hl hlen hk;rw [e,ff];rcases hF with ⟨rfl,q,hq,ho,hn⟩|⟨a,rfl,hI,hN⟩
    . refine ⟨_,rfl,.inr ⟨rfl,fun h hO=>?_⟩⟩
      have:zap q h=true:=zas.2 fun i hi hm=>by
        have hop:=hn i hi;unfold zh2 at hop;rw [hm] at hop;have hpm:hbit p.mask i=true:=by simpa using hop
        rw [<- zas.1 hO.into i hi hpm];exact (zim.1 ho i hi hpm hm).symm
      rw [hO.no q hq] at this;cases this
    . rw [Sum.elim_inr];have hnl:(l.filter (zdi p)).length<=1000:=jv (nj _ _) hlen;have hnr:∀ q,q∈l.filter (zdi p)->zaf q=true:=fun q hq=>hl q (oy.1 hq).1;by_cases hz:l.filter (zdi p)=[]
      . rw [zAc (show (((l.filter (zdi p)).length:Nat):Int)=0 by rw [hz];rfl)];unfold zlu;refine ⟨_,rfl,.inl ⟨rfl,zxh hp fun q hq=>?_⟩⟩
        cases ho:zdi p q with
        |false=>rfl
        |true=>have:q∈l.filter (zdi p):=oy.2 ⟨hq,ho⟩;rw [hz] at this;cases this
      . obtain ⟨a160,q0,hq0,hop⟩:=hN hz;have hpa:hbit p.mask a=false:=by unfold zh2 at hop;simp at hop;exact hop.2
        have hca:c<=a:=by
          apply Nat.le_of_not_lt;intro hlt;have:=hc q0 (oy.1 hq0).1 a hlt;rw [hop] at this;cases this
        have hlen0:¬ ((l.filter (zdi p)).length:Int)=0:=by
          intro h;exact hz (List.eq_nil_of_length_eq_zero (by omega))
        rw [zAd hlen0];obtain ⟨p0,f0,F0⟩:=z8w (k:=k) (b:=false) hp a160;obtain ⟨p1,f1,F1⟩:=z8w (k:=k) (b:=true) hp a160;have f0':zij k p (a:Int) 0=some p0:=f0;have f1':zij k p (a:Int) 1=some p1:=f1
        have next:∀ {b:Bool} {r:Pat},zyh p a b r->∀ q,q∈l.filter (zdi p)->∀ i,i<a+1->zh2 q r i=false:=fun {b r} hF q hq i hi=>by
          unfold zh2;rw [hF.hm i (by omega)];by_cases e:i=a
          . simp [e]
          . have:=hI q hq i (by omega);unfold zh2 at this;rw [zAb e,md];exact this
        obtain ⟨r0,e0,R0⟩:=ih (a+1) p0 _ (by omega) (by omega) (z2l hp F0) hnr hnl (next F0);rw [f0',ff,zAc rfl,e0,ff]
        cases hb:r0.2 with
        |true =>
          rw [zAc rfl];refine ⟨_,rfl,?_⟩;have:=Res.join (r1:=r0) a160 hpa F0 F1 hI R0 (fun h=>by rw [hb] at h;cases h);rw [hb,zAc rfl] at this;rcases this with ⟨x,y⟩|⟨x,y⟩
          . exact .inl ⟨x,⟨Out.near.2 y.out,fun h' ho'=>y.least h' (Out.near.1 ho')⟩⟩
          . exact .inr ⟨x,fun h ho'=>y h (Out.near.1 ho')⟩
        |false =>
          obtain ⟨r1,e1,R1⟩:=ih (a+1) p1 _ (by omega) (by omega) (z2l hp F1) hnr hnl (next F1);rw [zAd (by simp),f1',ff,e1,ff];refine ⟨_,rfl,?_⟩;have:=Res.join a160 hpa F0 F1 hI R0 (fun _=>R1);rw [hb,zAd (by simp)] at this;rcases this with ⟨x,y⟩|⟨x,y⟩
          . exact .inl ⟨x,⟨Out.near.2 y.out,fun h' ho'=>y.least h' (Out.near.1 ho')⟩⟩
          . exact .inr ⟨x,fun h ho'=>y h (Out.near.1 ho')⟩
theorem z3f {k:Nat} (hk:big<=k) {p:Pat} {l:List Pat} (hp:zaf p=true) (hl:∀ q,q∈l->zaf q=true) (hlen:l.length<=1000):∃ r,ze4 k p l=some r/\Res p l r:=by
  obtain ⟨r,e,R⟩:=ybp hk k 0 p l (by omega) (by simp only [big] at hk;omega) hp hl hlen (fun q hq i hi=>by omega);refine ⟨r,?_,R⟩;unfold ze4 zh8;rw [e];rfl
end Go.Proofs.Ytkfnjbfnkpameaa
