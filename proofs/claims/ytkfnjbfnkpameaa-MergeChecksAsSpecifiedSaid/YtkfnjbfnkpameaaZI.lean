/- Part 9 of the proof of MergeChecksAsSpecified (several texts in one; no further condition). -/
import Derived.Test.YtkfnjbfnkpameaaZG
import Derived.Test.YtkfnjbfnkpameaaZH
import Derived.KernelRfl
import Derived.Test.YtkfnjbfnkpameaaZE
import Derived.Test.YtkfnjbfnkpameaaZF
import Derived.Test.YtkfnjbfnkpameaaRows
set_option linter.unusedSimpArgs false
set_option linter.unusedVariables false
set_option linter.unusedSectionVars false
namespace Go.Proofs.Ytkfnjbfnkpameaa
set_option maxHeartbeats 8000000
open _root_.And renaming intro->fc
open _root_.BitVec renaming ofInt->i6,toNat_and->oe,toNat_ofInt->lm
open _root_.Bool renaming and_eq_true->fi,and_self->gb,eq_iff_iff->ks,false_eq_true->qr,false_or->mc,not_false->ik,not_true->iu,toNat_false->qd,true_and->jx
open _root_.Classical renaming byContradiction->js
open Go.IntKind renaming i64->fh,u64->fy
open _root_.List renaming all_eq_true->h9,append_assoc->gi,append_nil->gr,cons_append->gp,drop_succ_cons->ku,drop_zero->gl,findSome?_cons->n7,flatten_cons->ig,flatten_nil->iw,getD_eq_getElem?_getD->fo,getElem?_cons_succ->lf,getElem?_cons_zero->gw,getElem?_eq_getElem->fj,getElem?_eq_none->jv,getElem_mem->jo,getElem_of_mem->mo,length_append->fw,length_cons->gg,length_filter_le->ni,length_map->fq,length_nil->jd,length_singleton->ip,mem_append->im,mem_filter->ox,mem_map->jn,mem_range->ky,mem_singleton->gt,nil_append->ge,range->kj,range'_succ->p8,replicate->f7,set_cons_succ->ls,set_cons_zero->lc,take_of_length_le->ii
open _root_.Nat renaming add->pj,add_zero->jq,and_le_left->pi,beq_refl->i8,div->mv,div_le_self->rh,eq_of_beq_eq_true->fk,eq_of_testBit_eq->ny,land->o7,le_refl->fm,le_trans->ju,log2->ke,lt_of_le_of_lt->oq,lt_of_lt_of_le->gq,lt_trichotomy->nr,mod->pv,mul->pg,or_lt_two_pow->pu,pow_le_pow_right->lw,pow_lt_pow_right->o6,pow_succ->sm,reduceAdd->ft,reduceEqDiff->fp,reduceLT->iq,reduceLeDiff->jy,reduceMul->jf,reduceSub->iy,testBit_and->lp,testBit_lt_two_pow->mn,testBit_or->od,xor_lt_two_pow->sg,zero_add->i4,zero_le->io,zero_testBit->oh
open _root_.Option renaming bind_some->fe
open _root_.Option.some renaming injEq->fd
open Go.Proofs.Ytkfnjbfnkpameaa.Pure renaming clr->ja
open Go.Proofs.Ytkfnjbfnkpameaa.Sh renaming sz->qq,szL->pn
open _root_.Sum renaming elim->kp
open Go.Proofs.Ytkfnjbfnkpameaa.T renaming cells->jc,int->fg,ren->ql,renL->om,str->pf
open Go.Proofs.Ytkfnjbfnkpameaa.TW renaming block->gj,loopT->ji,seq->ff
open Go.Proofs.Ytkfnjbfnkpameaa.zal renaming call->gc
set_option maxRecDepth 1000000
open Go Go.RowKit
def zfu (k:Nat) (t:List Rule):List Merg->Option Bool
 |[]=>some true
 |m_ :: r_=>((zes k t m_).bind fun ah=>(if ah.2=0 then some false else zfu k t  r_ ))
def zj6 (k:Nat) (t:List Rule):Option Bool:=(if zxe t then zfu k t  (zzp t)  else none)
theorem zft (ax:Axs) (hx:NoAx ax) (k:Nat) (t:List Rule) (v:Bool) (H:zj6 k t=some v):Pure Try.prog (EE ax) [] 19 [zad t] (.bool v):=by
 rw [zj6] at H;refine en [.cell 2 4] 17 [0] (hx.no _ (by decide)) (fn19 ax) ?_;intro h hh;apply ff;refine rk [1,2] [] hh fun h hh=>?_;repeat apply ff
 refine rkp [1,2,7] [] [.fn 66 [] [.cp [zad t]]] hh ?_ ?_
 .exact ⟨gc ((zxf ax hx t).call _),trivial⟩
 clear hh h;intro h hh;apply gj;obtain ⟨g1,H⟩:=isg H;refine rm [1,2,7] t (fun L bs=>zfu k t  L  = some v/\bs=[.cells true 1 [zad t],.cells true 1 [.bool false]]) (fun h=>h 1=.ptr 0 0 1/\h 2=.ptr 1 0 1/\h 7=.fn 66 [] [.cp [zad t]]) hh g1 ⟨H,rfl⟩ ?_ ?_
 .clear hh h H;rintro hO hhO m_ r_ bs1 ⟨H,rfl⟩;rw [zfu] at H;refine gk [1,2,8] hhO ?_;intro h hh;refine rk [1,2,3] [] hh fun h hh=>?_;apply gj;obtain ⟨ah,e2,H⟩:=zab H;apply ff;refine rkp [1,2,5] [] [.tup [zad ah.1,.int .i64 ah.2]] hh ?_ ?_
  .exact ⟨gc ((zhn ax hx k t m_ ah e2 ).call _),trivial⟩
  clear hh h;intro h hh;apply ff;refine rk [1,2,16] [] hh fun h hh=>?_;rcases isp H with ⟨c3,H⟩|⟨c3,H⟩;rotate_left
  .skip;refine cf (f2 hh (zAb c3)) ?_;refine sk ?_;exact re hh ⟨H,rfl⟩
  refine ct (f2 hh (zAa c3)) ?_;apply ff;refine rk [2] [] hh fun h hh=>?_;cases H;refine xq ?_;clear hh h;revert hO;intro h hh;exact rqc hh
 clear hh h H;rintro h hh bs2 ⟨H,rfl⟩;rw [zfu] at H;apply ff;refine rk [2] [] hh fun h hh=>?_;cases H;exact rtc hh
def zfw (k:Nat) (x:List Rule) (l:List Merg) (n:Nat) (kc:(List Rule)->(List Merg)->Nat->Option (List Rule×List Merg)):List Merg->Option (List Rule×List Merg)
 |[]=>(if l.length=n then some (x,l) else none)
 |m_ :: r_=>((zes k x m_).bind fun ah=>(if ah.2=0 then (if (n+1)*25<=1000000000 then kc ah.1 (l++[m_]) (n+1) else none) else zfw k x l n kc  r_ ))
def zeh (k:Nat)  : Nat->(List Rule)->(List Merg)->Nat->Option (List Rule×List Merg)
 |0,_,_,_=>none
 |m+1,x,l,n=>(if zxe x then zfw k x l n (zeh k  m)  (zzp x)  else none)
def zfx (k:Nat) (t:List Rule):Option (List Rule×List Merg):=(if t.length*201<=1000000000 then (if t.length=t.length then zeh k  k t [] 0 else none) else none)
theorem zfv (ax:Axs) (hx:NoAx ax) (k:Nat) (t:List Rule) (v:List Rule×List Merg) (H:zfx k t=some v):Pure Try.prog (EE ax) [] 23 [zad t] (tupT [zad v.1,zlj v.2]):=by
 rw [zfx] at H;refine enN [.tmp 2,.tmp 3] 28 [0] (hx.no _ (by decide)) (fn23 ax) ?_;intro h hh;apply ff;refine rk [1] [] hh fun h hh=>?_;apply TW.scope;apply ff;refine rk [1,4] [] hh fun h hh=>?_;refine vz 1 0 3 ?_;obtain ⟨g1,H⟩:=isg H;apply ff;refine rkc [1,4] [] [(.arr 3 23 0 t.length t.length (t.length*23),stL [.cells true 1 [zad t],.cells true 1 [.arr 2 3 0 0 0 0],.cells false 0 (vecC ziz []),.cells false (t.length*23) (vecC zaj t)])] hh ?_ ?_
 .exact ⟨(by have q:=Call.fresh (zlf ax hx t g1) (by simp only [zbm,idsA,idsB,gb]) (by simp only [zbm,idsA,idsB,gb]) [.cells true 1 [zad t],.cells true 1 [.arr 2 3 0 0 0 0],.cells false 0 (vecC ziz [])];exact q),trivial⟩
 clear hh h;intro h hh;obtain ⟨g2,H⟩:=isg H;apply ff;refine fz (e:=23) (len:=t.length) (M:=(t.length*23)) 0 3 0 (t.map zaj) (by rw [gl];exact zc6 (e:=23) (fun x=>zau x) g2) (fun t ht=>by obtain ⟨x,_,rfl⟩:=jn.1 ht;first|rfl|exact zga _|exact za2 _|exact zd2 _|exact zau _ | (rw [fq];rfl)) (by rw [fq]<;>exact g2) ?_;refine lk ?_;apply gj;refine ji [1,4] (fun m h bs=>∃ (x:List Rule) (l:List Merg) (n:Nat),zeh k  m x l n=some v/\(h 1=.ptr 0 0 1/\h 4=.ptr 1 0 1)/\bs=[.cells true 1 [zad x],.cells true 1 [.arr 2 3 0 n n (n*3)],.cells false (n*3) (vecC ziz l),.gone]) ?_ k _ _ ?_;rotate_left
 .exact ⟨t,[],0,H,kq hh,rfl⟩
 clear hh h H;rintro m h bs ⟨x,l,n,H,hh,rfl⟩;rcases m with _|m
 .rw [zeh] at H;cases H
 rw [zeh] at H;apply gj;repeat apply ff
 refine rkp [1,4,11] [] [.fn 66 [] [.cp [zad x]]] hh ?_ ?_
 .exact ⟨gc ((zxf ax hx x).call _),trivial⟩
 clear hh h;intro h hh;apply gj;obtain ⟨g3,H⟩:=isg H;refine rm [1,4,11] x (fun L bs=>zfw k x l n (zeh k  m)  L  = some v/\bs=[.cells true 1 [zad x],.cells true 1 [.arr 2 3 0 n n (n*3)],.cells false (n*3) (vecC ziz l),.gone]) (fun h=>h 1=.ptr 0 0 1/\h 4=.ptr 1 0 1/\h 11=.fn 66 [] [.cp [zad x]]) hh g3 ⟨H,rfl⟩ ?_ ?_
 .clear hh h H;rintro hO hhO m_ r_ bs1 ⟨H,rfl⟩;rw [zfw] at H;refine gk [1,4,12] hhO ?_;intro h hh;refine rk [1,4,5] [] hh fun h hh=>?_;apply gj;obtain ⟨ah,e4,H⟩:=zab H;apply ff;refine rkp [1,4,5,6,7] [] [.tup [zad ah.1,.int .i64 ah.2]] hh ?_ ?_
  .exact ⟨gc ((zhn ax hx k x m_ ah e4 ).call _),trivial⟩
  clear hh h;intro h hh;apply ff;refine rk [1,4,5,6,20] [] hh fun h hh=>?_;rcases isp H with ⟨c5,H⟩|⟨c5,H⟩;rotate_left
  .skip;refine cf (f2 hh (zAb c5)) ?_;refine sk ?_;exact re hh ⟨H,rfl⟩
  refine ct (f2 hh (zAa c5)) ?_;obtain ⟨g6,H⟩:=isg H;apply ff;refine rg [] [] [.cells true 1 [zad ah.1],.cells true 1 [.arr 2 3 0 (n+1) (n+1) ((n+1)*3)],.cells false ((n+1)*3) (vecC ziz (l++[m_])),.gone,.cells true 3 [.int .i64 m_.kind,.int .i64 m_.i,.int .i64 m_.k]] (fun h=>h 1=.ptr 0 0 1/\h 4=.ptr 1 0 1) (f3 hh (el40 ax) (sr40 ax)) trivial fun h hh=>?_;refine xm ?_;clear hh h;revert hO;intro h hh;exact rd m hh ⟨ah.1,(l++[m_]),(n+1),H,kq hh,rfl⟩
 clear hh h H;rintro h hh bs2 ⟨H,rfl⟩;rw [zfw] at H;apply ff;refine dk 2 [2,3] [] [] [] hh trivial trivial fun h hh=>?_;obtain ⟨g7,H⟩:=isg H;refine TW.freeze 3 (b:=2) (e:=3) (off:=0) (len:=n) (cap:=n) (M:=(n*3)) (l.map ziz) (kq hh) (by rfl) (by omega) (by omega) (by rw [gl];exact zc6 (fun _=>rfl) g7) (fun t ht=>by obtain ⟨x,_,rfl⟩:=jn.1 ht;first|rfl|exact zga _|exact za2 _|exact zd2 _|exact zau _ | (rw [fq];rfl)) (by rw [fq]<;>exact g7) (by omega) ?_;rw [zed _ _ _ (by simp only [lzA]<;>omega)];simp only [scA];refine gk [2,3] hh fun h hh=>?_;cases H;exact rt hh
def ztk (k:Nat)  : Option Bool:=((zh7 k [[49152,0,3],[49152,16384,3]]).bind fun au=>((zh7 k [[49152,0,3],[49152,16384,3],[32768,32768,3]]).bind fun dj=>((zh7 k [[49152,49152,3],[32768,32768,3]]).bind fun dl=>((zh7 k [[49152,0,3],[32768,0,(-1)],[49152,16384,3]]).bind fun dm=>((zh7 k [[49152,0,3],[49152,16384,(-1)],[32768,32768,3]]).bind fun dn=>((zfx k au).bind fun ak=>((zfx k dj).bind fun cd=>((zfx k dl).bind fun bf=>((zfx k dm).bind fun cg=>((zfx k dn).bind fun cj=>(((if (ak.1.length:Int)=1 then (if (ak.2.length:Int)=1 then (if (0:Int)<=0/\0<(ak.1.length:Int) then (if (((gx ak.1 0).mat).mask)=(mkAr 10 [32768]) then ((zfy k au ak.1 ak.2).bind fun ay=>(if ay=0 then (if (cd.1.length:Int)=1 then (if (cd.2.length:Int)=2 then (if (0:Int)<=0/\0<(cd.1.length:Int) then some (decide (((gx cd.1 0).mat)=(⟨zA 10,zA 10⟩:Pat))) else none) else some false) else some false) else some false)) else some false) else none) else some false) else some false):Option Bool).bind fun s_=>(((if (bf.1.length:Int)=1 then (if (bf.2.length:Int)=1 then (if (0:Int)<=0/\0<(bf.2.length:Int) then (if (gx bf.2 0)=(⟨1,0,0⟩:Merg) then (if (cg.1.length:Int)=1 then (if (cg.2.length:Int)=2 then (if (cj.1.length:Int)=2 then some (decide ((cj.2.length:Int)=1)) else some false) else some false) else some false) else some false) else none) else some false) else some false):Option Bool).bind fun s_2=>((zia k au (⟨2,1,0⟩:Merg)).bind fun ab=>((zes k au (⟨1,1,0⟩:Merg)).bind fun ah=>(if s_=true then (if s_2=true then (if ab.2=1 then (if ah.2=7 then ((zj6 k au).bind fun ck=>(if ck=true then some false else ((zj6 k ak.1).bind fun cr=>(if cr=true then ((zfy k au au ak.2).bind fun bg=>some (decide (bg=7))) else some false)))) else some false) else some false) else some false) else some false)))))))))))))))
theorem z03 (ax:Axs) (hx:NoAx ax) (hs:ax 9=none) (k:Nat)  (v:Bool) (H:ztk k  = some v):Pure Try.prog (EE ax) [] 9 [] (.bool v):=by
 rw [ztk] at H;refine en [.tmp 0] 187 [] hs (fn9 ax) ?_;intro h hh;apply ff;refine rk [] [] hh fun h hh=>?_;obtain ⟨au,e1,H⟩:=zab H;apply ff;refine rkp [1] [] [zad au] (f2 hh (el63 ax)) ?_ ?_
 .exact ⟨gc ((zhh ax hx k [[49152,0,3],[49152,16384,3]] au e1 ).call _),trivial⟩
 clear hh h;intro h hh;obtain ⟨dj,e2,H⟩:=zab H;apply ff;refine rkp [1,2] [] [zad dj] (f2 hh (el63 ax)) ?_ ?_
 .exact ⟨gc ((zhh ax hx k [[49152,0,3],[49152,16384,3],[32768,32768,3]] dj e2 ).call _),trivial⟩
 clear hh h;intro h hh;obtain ⟨dl,e3,H⟩:=zab H;apply ff;refine rkp [1,2,3] [] [zad dl] (f2 hh (el63 ax)) ?_ ?_
 .exact ⟨gc ((zhh ax hx k [[49152,49152,3],[32768,32768,3]] dl e3 ).call _),trivial⟩
 clear hh h;intro h hh;obtain ⟨dm,e4,H⟩:=zab H;apply ff;refine rkp [1,2,3,4] [] [zad dm] (f2 hh (el63 ax)) ?_ ?_
 .exact ⟨gc ((zhh ax hx k [[49152,0,3],[32768,0,(-1)],[49152,16384,3]] dm e4 ).call _),trivial⟩
 clear hh h;intro h hh;obtain ⟨dn,e5,H⟩:=zab H;apply ff;refine rkp [1,2,3,4,5] [] [zad dn] (f2 hh (el63 ax)) ?_ ?_
 .exact ⟨gc ((zhh ax hx k [[49152,0,3],[49152,16384,(-1)],[32768,32768,3]] dn e5 ).call _),trivial⟩
 clear hh h;intro h hh;obtain ⟨ak,e6,H⟩:=zab H;apply ff;refine rkp [1,2,3,4,5,6,7] [] [.tup [zad ak.1,zlj ak.2]] hh ?_ ?_
 .exact ⟨gc ((zfv ax hx k au ak e6 ).call _),trivial⟩
 clear hh h;intro h hh;obtain ⟨cd,e7,H⟩:=zab H;apply ff;refine rkp [1,3,4,5,6,7,8,9] [] [.tup [zad cd.1,zlj cd.2]] hh ?_ ?_
 .exact ⟨gc ((zfv ax hx k dj cd e7 ).call _),trivial⟩
 clear hh h;intro h hh;obtain ⟨bf,e8,H⟩:=zab H;apply ff;refine rkp [1,4,5,6,7,8,9,10,11] [] [.tup [zad bf.1,zlj bf.2]] hh ?_ ?_
 .exact ⟨gc ((zfv ax hx k dl bf e8 ).call _),trivial⟩
 clear hh h;intro h hh;obtain ⟨cg,e9,H⟩:=zab H;apply ff;refine rkp [1,5,6,7,8,9,10,11,12,13] [] [.tup [zad cg.1,zlj cg.2]] hh ?_ ?_
 .exact ⟨gc ((zfv ax hx k dm cg e9 ).call _),trivial⟩
 clear hh h;intro h hh;obtain ⟨cj,e10,H⟩:=zab H;apply ff;refine rkp [1,6,7,8,9,10,11,12,13,14,15] [] [.tup [zad cj.1,zlj cj.2]] hh ?_ ?_
 .exact ⟨gc ((zfv ax hx k dn cj e10 ).call _),trivial⟩
 clear hh h;intro h hh;obtain ⟨s_,H1,H⟩:=zab H;apply ff;refine cu [1,6,7,10,11,12,13,14,15,16] 0 (fun h bs=>(h 1=zad au/\h 6=zad ak.1/\h 7=zlj ak.2/\h 10=zad bf.1/\h 11=zlj bf.2/\h 12=zad cg.1/\h 13=zlj cg.2/\h 14=zad cj.1/\h 15=zlj cj.2/\h 16=.bool s_)/\bs=[]) ?_ ?_
 .skip;rcases isp H1 with ⟨c11,H1⟩|⟨c11,H1⟩;rotate_left
  .skip;refine rk [1,6,7,10,11,12,13,14,15,16] [] (f2 hh (zAb c11)) fun h hh=>?_;cases H1;exact ce hh ⟨kq hh,rfl⟩
  rcases isp H1 with ⟨c12,H1⟩|⟨c12,H1⟩;rotate_left
  .skip;refine rk [1,6,7,10,11,12,13,14,15,16] [] (f3 hh (zAa c11) (zAb c12)) fun h hh=>?_;cases H1;exact ce hh ⟨kq hh,rfl⟩
  obtain ⟨g13,H1⟩:=isg H1;rcases isp H1 with ⟨c14,H1⟩|⟨c14,H1⟩;rotate_left
  .skip;refine rk [1,6,7,10,11,12,13,14,15,16] [] (f3 hh (zAa c11) (f3 (zAa c12) (zAb c14) (f3 (zag g13) (ba43 ax) (f2 (bc43 ax) ((aq43 ax (((gx ak.1 0).mat).mask) (mkAr 10 [32768])).1))))) fun h hh=>?_;cases H1;exact ce hh ⟨kq hh,rfl⟩
  obtain ⟨ay,e15,H1⟩:=zab H1;rcases isp H1 with ⟨c16,H1⟩|⟨c16,H1⟩;rotate_left
  .skip;refine rkp [1,6,7,10,11,12,13,14,15,16] [] [.int .i64 ay] (f3 hh (zAa c11) (f3 (zAa c12) (zAa c14) (f3 (zAb c16) (zag g13) (f3 (ba43 ax) (bc43 ax) ((aq43 ax (((gx ak.1 0).mat).mask) (mkAr 10 [32768])).1))))) ?_ ?_
   .exact ⟨gc ((zei ax hx k au ak.1 ak.2 ay e15 ).call _),trivial⟩
   clear hh h;intro h hh;cases H1;exact ce hh ⟨kq hh,rfl⟩
  rcases isp H1 with ⟨c17,H1⟩|⟨c17,H1⟩;rotate_left
  .skip;refine rkp [1,6,7,10,11,12,13,14,15,16] [] [.int .i64 ay] (f3 hh (zAa c11) (f3 (zAa c12) (zAa c14) (f3 (zAa c16) (zAb c17) (f3 (zag g13) (ba43 ax) (f2 (bc43 ax) ((aq43 ax (((gx ak.1 0).mat).mask) (mkAr 10 [32768])).1)))))) ?_ ?_
   .exact ⟨gc ((zei ax hx k au ak.1 ak.2 ay e15 ).call _),trivial⟩
   clear hh h;intro h hh;cases H1;exact ce hh ⟨kq hh,rfl⟩
  rcases isp H1 with ⟨c18,H1⟩|⟨c18,H1⟩;rotate_left
  .skip;refine rkp [1,6,7,10,11,12,13,14,15,16] [] [.int .i64 ay] (f3 hh (zAa c11) (f3 (zAa c12) (zAa c14) (f3 (zAa c16) (zAa c17) (f3 (zAb c18) (zag g13) (f3 (ba43 ax) (bc43 ax) ((aq43 ax (((gx ak.1 0).mat).mask) (mkAr 10 [32768])).1)))))) ?_ ?_
   .exact ⟨gc ((zei ax hx k au ak.1 ak.2 ay e15 ).call _),trivial⟩
   clear hh h;intro h hh;cases H1;exact ce hh ⟨kq hh,rfl⟩
  obtain ⟨g19,H1⟩:=isg H1;refine rkp [1,6,7,10,11,12,13,14,15,16] [] [.int .i64 ay] (f3 hh (zAa c11) (f3 (zAa c12) (zAa c14) (f3 (zAa c16) (zAa c17) (f3 (zAa c18) (zag g13) (f3 (ba43 ax) (bc43 ax) (f3 ((aq43 ax (((gx ak.1 0).mat).mask) (mkAr 10 [32768])).1) (zag g19) ((aq56 ax ((gx cd.1 0).mat) (⟨zA 10,zA 10⟩:Pat)).1))))))) ?_ ?_
  .exact ⟨gc ((zei ax hx k au ak.1 ak.2 ay e15 ).call _),trivial⟩
  clear hh h;intro h hh;cases H1;exact ce hh ⟨kq hh,rfl⟩
 clear hh h;rintro h bs ⟨hh,rfl⟩;obtain ⟨s_2,H1,H⟩:=zab H;apply ff;refine cu [1,6,7,16,17] 0 (fun h bs=>(h 1=zad au/\h 6=zad ak.1/\h 7=zlj ak.2/\h 16=.bool s_/\h 17=.bool s_2)/\bs=[]) ?_ ?_
 .skip;rcases isp H1 with ⟨c20,H1⟩|⟨c20,H1⟩;rotate_left
  .skip;refine rk [1,6,7,16,17] [] (f2 hh (zAb c20)) fun h hh=>?_;cases H1;exact ce hh ⟨kq hh,rfl⟩
  rcases isp H1 with ⟨c21,H1⟩|⟨c21,H1⟩;rotate_left
  .skip;refine rk [1,6,7,16,17] [] (f3 hh (zAa c20) (zAb c21)) fun h hh=>?_;cases H1;exact ce hh ⟨kq hh,rfl⟩
  obtain ⟨g22,H1⟩:=isg H1;rcases isp H1 with ⟨c23,H1⟩|⟨c23,H1⟩;rotate_left
  .skip;refine rk [1,6,7,16,17] [] (f3 hh (zAa c20) (f3 (zAa c21) (zAb c23) (f2 (zag g22) ((aq30 ax (gx bf.2 0) (⟨1,0,0⟩:Merg)).1)))) fun h hh=>?_;cases H1;exact ce hh ⟨kq hh,rfl⟩
  rcases isp H1 with ⟨c24,H1⟩|⟨c24,H1⟩;rotate_left
  .skip;refine rk [1,6,7,16,17] [] (f3 hh (zAa c20) (f3 (zAa c21) (zAa c23) (f3 (zAb c24) (zag g22) ((aq30 ax (gx bf.2 0) (⟨1,0,0⟩:Merg)).1)))) fun h hh=>?_;cases H1;exact ce hh ⟨kq hh,rfl⟩
  rcases isp H1 with ⟨c25,H1⟩|⟨c25,H1⟩;rotate_left
  .skip;refine rk [1,6,7,16,17] [] (f3 hh (zAa c20) (f3 (zAa c21) (zAa c23) (f3 (zAa c24) (zAb c25) (f2 (zag g22) ((aq30 ax (gx bf.2 0) (⟨1,0,0⟩:Merg)).1))))) fun h hh=>?_;cases H1;exact ce hh ⟨kq hh,rfl⟩
  rcases isp H1 with ⟨c26,H1⟩|⟨c26,H1⟩;rotate_left
  .skip;refine rk [1,6,7,16,17] [] (f3 hh (zAa c20) (f3 (zAa c21) (zAa c23) (f3 (zAa c24) (zAa c25) (f3 (zAb c26) (zag g22) ((aq30 ax (gx bf.2 0) (⟨1,0,0⟩:Merg)).1))))) fun h hh=>?_;cases H1;exact ce hh ⟨kq hh,rfl⟩
  refine rk [1,6,7,16,17] [] (f3 hh (zAa c20) (f3 (zAa c21) (zAa c23) (f3 (zAa c24) (zAa c25) (f3 (zAa c26) (zag g22) ((aq30 ax (gx bf.2 0) (⟨1,0,0⟩:Merg)).1))))) fun h hh=>?_;cases H1;exact ce hh ⟨kq hh,rfl⟩
 clear hh h;rintro h bs ⟨hh,rfl⟩;obtain ⟨ab,e27,H⟩:=zab H;apply ff;refine rkp [1,6,7,16,17,19] [] [.tup [zad ab.1,.int .i64 ab.2]] hh ?_ ?_
 .exact ⟨gc ((zoi ax hx k au (⟨2,1,0⟩:Merg) ab e27 ).call _),trivial⟩
 clear hh h;intro h hh;obtain ⟨ah,e28,H⟩:=zab H;apply ff;refine rkp [1,6,7,16,17,19,21] [] [.tup [zad ah.1,.int .i64 ah.2]] hh ?_ ?_
 .exact ⟨gc ((zhn ax hx k au (⟨1,1,0⟩:Merg) ah e28 ).call _),trivial⟩
 clear hh h;intro h hh;rcases isb H with ⟨c29,H⟩|⟨c29,H⟩;rotate_left
 .skip;apply ff;refine rk [0] [] (f2 hh c29) fun h hh=>?_;cases H;exact rt hh
 rcases isb H with ⟨c30,H⟩|⟨c30,H⟩;rotate_left
 .skip;apply ff;refine rk [0] [] (f3 hh c29 c30) fun h hh=>?_;cases H;exact rt hh
 rcases isp H with ⟨c31,H⟩|⟨c31,H⟩;rotate_left
 .skip;apply ff;refine rk [0] [] (f3 hh c29 (f2 c30 (zAb c31))) fun h hh=>?_;cases H;exact rt hh
 rcases isp H with ⟨c32,H⟩|⟨c32,H⟩;rotate_left
 .skip;apply ff;refine rk [0] [] (f3 hh c29 (f3 c30 (zAa c31) (zAb c32))) fun h hh=>?_;cases H;exact rt hh
 obtain ⟨ck,e33,H⟩:=zab H;rcases isb H with ⟨c34,H⟩|⟨c34,H⟩;rotate_left
 .skip;obtain ⟨cr,e35,H⟩:=zab H;rcases isb H with ⟨c36,H⟩|⟨c36,H⟩;rotate_left
  .skip;apply ff;refine rkp [0] [] [.bool ck,.bool cr] (f3 hh c29 (f3 c30 (zAa c31) (f3 (zAa c32) c34 c36))) ?_ ?_
   .exact ⟨gc (ja (zft ax hx k au ck e33 ) (by first|rfl|simp only [c29,c30,c34,c36])),gc (ja (zft ax hx k ak.1 cr e35 ) (by first|rfl|simp only [c29,c30,c34,c36])),trivial⟩
   clear hh h;intro h hh;cases H;exact rt hh
  obtain ⟨bg,e37,H⟩:=zab H;apply ff;refine rkp [0] [] [.bool ck,.bool cr,.int .i64 bg] (f3 hh c29 (f3 c30 (zAa c31) (f3 (zAa c32) c34 c36))) ?_ ?_
  .exact ⟨gc (ja (zft ax hx k au ck e33 ) (by first|rfl|simp only [c29,c30,c34,c36])),gc (ja (zft ax hx k ak.1 cr e35 ) (by first|rfl|simp only [c29,c30,c34,c36])),gc (ja (zei ax hx k au au ak.2 bg e37 ) (by first|rfl|simp only [c29,c30,c34,c36])),trivial⟩
  clear hh h;intro h hh;cases H;exact rt hh
 apply ff;refine rkp [0] [] [.bool ck] (f3 hh c29 (f3 c30 (zAa c31) (f2 (zAa c32) c34))) ?_ ?_
 .exact ⟨gc (ja (zft ax hx k au ck e33 ) (by first|rfl|simp only [c29,c30,c34])),trivial⟩
 clear hh h;intro h hh;cases H;exact rt hh
theorem zvu:ztk 200=some true:=by kernel_rfl
theorem zw3 {ax:Axs} (hax:zqs Try.prog GG LL ax) {f:FuncId} {fn:Func} {body:Code} (hfn:(EE ax).fn.at f=some fn) (hb:fn.body=some body) {args:List T} {vs:Array Value} {W:World} (h:RtL W args vs.toList) (hp:Pure Try.prog (EE ax) [] f args (.bool true)) :
    Calls Try.prog f vs W fun e W'=>e=.returned (.bool true)/\Below W.heap.size W W':=by
  obtain ⟨A,xs,k⟩:=entL (N:=W.heap.size) (G:=GG) (K:=[]) rfl (fun p hp=>by simp at hp) (fun g hg=>by simp [has,GG] at hg) h [];have e:([]:List Seg)++A++[]=A:=by simp
  have kr:=k.vr [];have kl:=k.vl [];have ka:=k.at_ [];rw [e] at kr kl ka;obtain ⟨r1,r2,r3,r4⟩:=ybd (G:=GG) (N:=W.heap.size) (K:=[]) (A:=A) rfl (fun p hp=>by simp at hp) (fun p hp=>by simp at hp) (fun g hg=>by simp [has,GG] at hg) ka
  have hT:TRel [] (Low W.heap.size) bx0 ts0 (St (W.heap.size+A.length) (famS W.heap.size [] A) 0 [] []) :=
    ⟨⟨_,rfl⟩,r2,fun f hf=>by have:f<W.heap.size:=hf;show f<W.heap.size+A.length;omega,fun f hf=>absurd hf zly,fun b b' l l' f hb=>by simp [bx0] at hb,fun b _=>rfl,fun b z N l hb=>by simp [ts0] at hb,fun b l hb=>by simp [ts0] at hb,fun x hx=>by simp at hx⟩
  obtain ⟨v,s2,A',β',e1,e2,e3,e4⟩:=hp.2.2 _ _ _ xs hT kl;cases e3;refine (yhi ygs z7s hax hfn hb (args':=vs) e1 kr r1 r4 r2 r3).mono ?_;rintro e w' ⟨σ',v',rfl,k1,k2⟩;exact ⟨by rw [z6r 3 rfl k1],k2⟩
theorem z9a (w:World):Calls Try.prog 9 #[] w fun e w'=>e=.returned (.bool true)/\Below w.heap.size w w' :=
  zw3 (zqs.none yi8) (fn9 _) rfl .nil (z03 (fun _=>none) ⟨fun _ _=>rfl⟩ rfl 200 true zvu)
noncomputable def axS:Axs:=yfc 9 (z3o (.bool true)) fun _=>none
theorem yos:zqs Try.prog GG LL axS:=(zqs.none yi8).add (yor (L:=LL) (ax:=fun _=>none) z7s (fn9 fun _=>none) rfl rfl z9a)
theorem ymv:axS 9=some (z3o (.bool true)):=yac _ _ _
theorem yfb:ym1 axS:=by
  refine ⟨fun f hf=>yhr _ _ fun h=>?_,rfl,rfl,fun A β s vargs hT hv=>?_⟩
  . subst h;rw [i8] at hf;cases hf
  . cases hv;exact ⟨.bool true,s,A,β,yhl (k:=z3o (.bool true)) ymv rfl,hT,.bool true,Stp.refl⟩
theorem ydj {f:FuncId} {fn:Func} {body:Code} (hfn:(EE axS).fn.at f=some fn) (hb:fn.body=some body) {args:List T} {vs:Array Value} {W:World} (h:RtL W args vs.toList) (hp:Pure Try.prog (EE axS) [] f args (.bool true)) :
    Calls Try.prog f vs W fun e W'=>e=.returned (.bool true)/\Below W.heap.size W W':=zw3 yos hfn hb h hp
abbrev big:Nat:=9223372036854775808
theorem za4 (i:Nat) (h:i<9223372036854775807):fh.wrap ((i:Int)+1)=((i+1:Nat):Int):=by
  rw [wr64 (by omega)];push_cast;rfl
theorem zi8 {α:Type} [Inhabited α] (l:List α) (i:Nat):gx l (i:Int)=l.getD i default:=rfl
theorem zdq {α:Type} [Inhabited α] {l:List α} {i:Nat} (h:i<l.length):gx l (i:Int)=l[i]:=by
  rw [zi8,fo,fj h];rfl
section
variable {α β σ:Type}
def sumO (o:Option β):β ⊕ Unit:=match o with|some b=>.inl b|none=>.inr ()
theorem zq3 {L : Nat -> Int -> Option (β ⊕ Unit)} (n : Nat) (c : Nat -> Option β) (hn : n < big) (hs : ∀ m (j : Nat), j < n -> L (m + 1) (j : Int) = match c j with | some b => some (.inl b) | none => L m (fh.wrap ((j : Int) + 1)))
    (he:∀ m,L (m+1) (n:Int)=some (.inr ())) {k:Nat} (hk:n<k):L k 0=some (sumO ((kj n).findSome? c)):=by
  have key:∀ m j,j<=n->n - j<m->L m (j:Int)=some (sumO ((List.range' j (n - j)).findSome? c)):=by
    intro m
    induction m with
    |zero=>intro j h1 h2;omega
    |succ m ih =>
      intro j h1 h2;by_cases hj:j<n
      . rw [hs m j hj,show n - j=(n - (j+1))+1 by omega,p8,n7]
        cases hc:c j with
        |some b=>rfl
        |none =>
          simp only;rw [za4 j (by simp only [big] at hn;omega)];exact ih (j+1) (by omega) (by omega)
      . obtain rfl:j=n:=by omega
        rw [he,Nat.sub_self];rfl
  have:=key k 0 (io _) (by omega);rw [List.range_eq_range'];exact this
theorem zr0 {c:Nat->Option β} {d:α->Option β}:∀ (l:List α) (s:Nat),(∀ j (h:j<l.length),c (s+j)=d l[j])->(List.range' s l.length).findSome? c=l.findSome? d
  |[],s,_=>rfl
  |x :: l,s,h=>by
    rw [gg,p8,n7,n7];have h0:=h 0 (by simp);rw [jq] at h0;rw [h0];simp only [List.getElem_cons_zero];rw [zr0 l (s+1) fun j hj=>by have:=h (j+1) (by simpa using hj);rw [show s+(j+1)=s+1+j by omega] at this;simpa using this]
theorem ydg {L : Nat -> Int -> Option (β ⊕ Unit)} (l : List α) (c : α -> Option β) (hn : l.length < big) (hs : ∀ m (j : Nat) (h : j < l.length), L (m + 1) (j : Int) = match c l[j] with | some b => some (.inl b) | none => L m (fh.wrap ((j : Int) + 1)))
    (he:∀ m,L (m+1) (l.length:Int)=some (.inr ())) {k:Nat} (hk:l.length<k):L k 0=some (sumO (l.findSome? c)):=by
  rw [zq3 l.length (fun j=>if h:j<l.length then c l[j] else none) hn (fun m j h=>by rw [hs m j h,dif_pos h]) he hk,List.range_eq_range'];rw [zr0 l 0 fun j h=>by rw [i4,dif_pos h]]
theorem znj {c:α->Option β} {b:β} {q:α->Bool}:∀ (l:List α),(∀ x,x∈l->c x=if q x=true then none else some b)->l.findSome? c=if l.all q=true then none else some b
  |[],_=>rfl
  |x :: l,h=>by
    rw [n7,h x (.head _),List.all_cons]
    cases hq:q x with
    |true=>simp only [if_true,jx];exact znj l fun y hy=>h y (.tail _ hy)
    |false=>rfl
theorem zpy {L:Nat->Int->Option (β ⊕ Unit)} (l:List α) (b:β) (q:α->Bool) (hn:l.length<big) (hs:∀ m (j:Nat) (h:j<l.length),L (m+1) (j:Int)=if q l[j]=true then L m (fh.wrap ((j:Int)+1)) else some (.inl b))
    (he:∀ m,L (m+1) (l.length:Int)=some (.inr ())) {k:Nat} (hk:l.length<k):L k 0=some (if l.all q=true then .inr () else .inl b):=by
  rw [ydg l (fun x=>if q x=true then none else some b) hn (fun m j h=>by rw [hs m j h];cases q l[j]<;>rfl) he hk,znj l fun _ _=>rfl];cases l.all q<;>rfl
theorem zhs {L:Nat->Int->Option (β ⊕ Unit)} (n:Nat) (b:β) (q:Nat->Bool) (hn:n<big) (hs:∀ m (j:Nat),j<n->L (m+1) (j:Int)=if q j=true then L m (fh.wrap ((j:Int)+1)) else some (.inl b))
    (he:∀ m,L (m+1) (n:Int)=some (.inr ())) {k:Nat} (hk:n<k):L k 0=some (if (kj n).all q=true then .inr () else .inl b):=by
  rw [zq3 n (fun x=>if q x=true then none else some b) hn (fun m j h=>by rw [hs m j h];cases q j<;>rfl) he hk,znj _ fun _ _=>rfl];cases (kj n).all q<;>rfl
theorem zvg {l:List α} {q:α->Bool}:l.all q=true↔∀ j (h:j<l.length),q l[j]=true:=by
  rw [h9];exact ⟨fun h j hj=>h _ (jo hj),fun h x hx=>by obtain ⟨j,hj,rfl⟩:=mo hx;exact h j hj⟩
def idxB (q:α->Bool) (l:List α):Int:=match l.findIdx? q with|some i=>(i:Int)|none=>-1
end
/-! words -/
theorem zsu {a b:Nat} (ha:a<9223372036854775808) (hb:b<9223372036854775808):iAnd .i64 (a:Int) (b:Int)=((a &&& b:Nat):Int):=by
  have h:a &&& b<=a:=pi;show fh.wrap ((i6 64 (a:Int) &&& i6 64 (b:Int)).toNat:Int)=_;rw [oe,lm,lm];rw [show ((a:Int) % ((2 ^ 64:Nat):Int)).toNat=a by omega,show ((b:Int) % ((2 ^ 64:Nat):Int)).toNat=b by omega];exact wr64 (by omega)
theorem z7p {a b:Nat} (ha:a<9223372036854775808) (hb:b<9223372036854775808):iXor .i64 (a:Int) (b:Int)=((a ^^^ b:Nat):Int):=by
  have h:a ^^^ b<2 ^ 63:=sg (by omega) (by omega);show fh.wrap ((i6 64 (a:Int) ^^^ i6 64 (b:Int)).toNat:Int)=_;rw [BitVec.toNat_xor,lm,lm];rw [show ((a:Int) % ((2 ^ 64:Nat):Int)).toNat=a by omega,show ((b:Int) % ((2 ^ 64:Nat):Int)).toNat=b by omega];exact wr64 (by omega)
theorem z42 {a b:Nat} (ha:a<9223372036854775808) (hb:b<9223372036854775808):iOr .i64 (a:Int) (b:Int)=((a ||| b:Nat):Int):=by
  have h:a ||| b<2 ^ 63:=pu (by omega) (by omega)
  show fh.wrap ((i6 64 (a:Int) ||| i6 64 (b:Int)).toNat:Int)=_;rw [BitVec.toNat_or,lm,lm];rw [show ((a:Int) % ((2 ^ 64:Nat):Int)).toNat=a by omega,show ((b:Int) % ((2 ^ 64:Nat):Int)).toNat=b by omega];exact wr64 (by omega)
theorem zut {a b:Nat} (ha:a<9223372036854775808) (hb:b<9223372036854775808):zht .i64 (a:Int) (b:Int)=((a - (a &&& b):Nat):Int):=zyh ha hb
theorem own:ownKnob Try.prog.godebug=none:=by kernel_rfl
theorem zzv:laidOutB Try.prog=true:=by kernel_rfl
def inI (x:Int):Prop:=-9223372036854775808<=x/\x<=9223372036854775807
theorem yh3 {x:Int} (h:(Lit.int .i64 x).wf=true):inI x:=by
  simp only [Lit.wf,decide_eq_true_eq,IntKind.wrap,IntKind.bits,IntKind.signed] at h;simp at h;have e1:fh.min=-9223372036854775808:=by decide
  have e2:fh.max=9223372036854775807:=by decide
  unfold inI;omega
theorem cf_i {t:T} (h:conf (.int .i64) t):∃ n,t=.int .i64 n/\inI n:=by
  obtain ⟨n,rfl,hw⟩:=h;exact ⟨n,rfl,yh3 hw⟩
theorem ymm {t:T} (h:conf .bool t):∃ b,t=.bool b/\True:=by
  obtain ⟨b,rfl⟩:=h;exact ⟨b,rfl,trivial⟩
theorem ykt {t:T} (h:conf .str t):∃ s,t=.str s/\s.size<big:=by
  obtain ⟨s,rfl,hs⟩:=h;have hm:maxLen<big:=by decide
  exact ⟨s,rfl,by omega⟩
theorem yku {n:Nat} {t:T} (h:conf (.arr .i64 n) t):∃ a:Ar n,t=.agg (a.l.map (fg .i64))/\∀ y,y∈a.l->inI y:=by
  obtain ⟨a,rfl,hw⟩:=h;exact ⟨a,rfl,fun y hy=>yh3 (hw y hy)⟩
theorem zkf {α:Type} {f:α->T} {sh:Sh} {p:α->Prop} (hf:∀ t,conf sh t->∃ x,t=f x/\p x) {t:T} (h:conf (.slice sh) t):∃ l:List α,t=.lst sh.sz (l.map f)/\(l.length<big/\∀ x,x∈l->p x):=by
  obtain ⟨l,rfl,hl,hall⟩:=h;have hm:maxLen<big:=by decide
  have key:∀ l:List T,(∀ x,x∈l->conf sh x)->∃ m:List α,l=m.map f/\∀ x,x∈m->p x:=by
    intro l
    induction l with
    |nil=>intro _;exact ⟨[],rfl,fun x hx=>by simp at hx⟩
    |cons t l ih =>
      intro hc;obtain ⟨x,rfl,hp⟩:=hf t (hc t (by simp));obtain ⟨m,rfl,hm⟩:=ih fun y hy=>hc y (by simp [hy]);refine ⟨x :: m,rfl,fun y hy=>?_⟩;rcases List.mem_cons.1 hy with rfl|hy
      . exact hp
      . exact hm y hy
  obtain ⟨m,rfl,hp⟩:=key l hall;rw [fq] at hl;exact ⟨m,rfl,by omega,hp⟩
def z51:Sh:=.struct [(.int .i64),(.int .i64),(.int .i64)]
def yh5 (x:Merg):Prop:=inI x.kind/\inI x.i/\inI x.k
theorem ymo {t:T} (h:conf z51 t):∃ x:Merg,t=ziz x/\yh5 x:=by
  obtain ⟨cs,rfl,x0,r0,rfl,h0,x1,r1,rfl,h1,x2,r2,rfl,h2,rfl⟩:=h;obtain ⟨a0,rfl,q0⟩:=cf_i h0;obtain ⟨a1,rfl,q1⟩:=cf_i h1;obtain ⟨a2,rfl,q2⟩:=cf_i h2;exact ⟨⟨a0,a1,a2⟩,by first | (simp only [ziz,jc,qq,pn,z51,gr,gp,ge,gi,jq,ft];done) | (simp only [ziz,jc,qq,pn,z51,gr,gp,ge,gi,jq,ft];rfl),q0,q1,q2⟩
def zy9:Sh:=.struct [(.arr .i64 10),(.arr .i64 10)]
def yk9 (x:Pat):Prop:=(∀ y,y∈x.mask.l->inI y)/\(∀ y,y∈x.bits.l->inI y)
theorem ykv {t:T} (h:conf zy9 t):∃ x:Pat,t=ePat x/\yk9 x:=by
  obtain ⟨cs,rfl,x0,r0,rfl,h0,x1,r1,rfl,h1,rfl⟩:=h;obtain ⟨a0,rfl,q0⟩:=yku h0;obtain ⟨a1,rfl,q1⟩:=yku h1;exact ⟨⟨a0,a1⟩,by first | (simp only [ePat,jc,qq,pn,zy9,gr,gp,ge,gi,jq,ft];done) | (simp only [ePat,jc,qq,pn,zy9,gr,gp,ge,gi,jq,ft];rfl),q0,q1⟩
def z89:Sh:=.struct [(.int .i64),zy9]
def yna (x:Alt):Prop:=inI x.link/\yk9 x.mod
theorem yon {t:T} (h:conf z89 t):∃ x:Alt,t=eAlt x/\yna x:=by
  obtain ⟨cs,rfl,x0,r0,rfl,h0,x1,r1,rfl,h1,rfl⟩:=h;obtain ⟨a0,rfl,q0⟩:=cf_i h0;obtain ⟨a1,rfl,q1⟩:=ykv h1;exact ⟨⟨a0,a1⟩,by first | (simp only [eAlt,ePat,jc,qq,pn,z89,zy9,gr,gp,ge,gi,jq,ft];done) | (simp only [eAlt,ePat,jc,qq,pn,z89,zy9,gr,gp,ge,gi,jq,ft];rfl),q0,q1⟩
def z04:Sh:=.struct [(.int .i64),zy9,(.int .i64),(.slice (.slice z89))]
def z0n (x:Rule):Prop:=inI x.prio/\yk9 x.mat/\inI x.step/\(x.outs.length<big/\∀ y,y∈x.outs->(y.length<big/\∀ y',y'∈y->yna y'))
theorem ye0 {t:T} (h:conf z04 t):∃ x:Rule,t=zaj x/\z0n x:=by
  obtain ⟨cs,rfl,x0,r0,rfl,h0,x1,r1,rfl,h1,x2,r2,rfl,h2,x3,r3,rfl,h3,rfl⟩:=h;obtain ⟨a0,rfl,q0⟩:=cf_i h0;obtain ⟨a1,rfl,q1⟩:=ykv h1;obtain ⟨a2,rfl,q2⟩:=cf_i h2;obtain ⟨a3,rfl,q3⟩:=zkf (fun _ hh=>zkf (fun _ hh=>yon hh) hh) h3;exact ⟨⟨a0,a1,a2,a3⟩,by first | (simp only [zaj,ePat,za5,lAlt,eAlt,jc,qq,pn,z04,zy9,z89,gr,gp,ge,gi,jq,ft];done) | (simp only [zaj,ePat,za5,lAlt,eAlt,jc,qq,pn,z04,zy9,z89,gr,gp,ge,gi,jq,ft];rfl),q0,q1,q2,q3⟩
def zwq:Sh:=.struct [.str,.bool,(.int .i64),(.int .i64)]
def yh4 (x:Node):Prop:=x.name.size<big/\True/\inI x.rules/\inI x.entries
theorem ymn {t:T} (h:conf zwq t):∃ x:Node,t=zqg x/\yh4 x:=by
  obtain ⟨cs,rfl,x0,r0,rfl,h0,x1,r1,rfl,h1,x2,r2,rfl,h2,x3,r3,rfl,h3,rfl⟩:=h;obtain ⟨a0,rfl,q0⟩:=ykt h0;obtain ⟨a1,rfl,q1⟩:=ymm h1;obtain ⟨a2,rfl,q2⟩:=cf_i h2;obtain ⟨a3,rfl,q3⟩:=cf_i h3;exact ⟨⟨a0,a1,a2,a3⟩,by first | (simp only [zqg,jc,qq,pn,zwq,gr,gp,ge,gi,jq,ft];done) | (simp only [zqg,jc,qq,pn,zwq,gr,gp,ge,gi,jq,ft];rfl),q0,q1,q2,q3⟩
def zwr:Sh:=.struct [(.int .i64),(.int .i64),(.int .i64)]
def yh6 (x:Link):Prop:=inI x.frm/\inI x.to/\inI x.cap
theorem ymp {t:T} (h:conf zwr t):∃ x:Link,t=zqh x/\yh6 x:=by
  obtain ⟨cs,rfl,x0,r0,rfl,h0,x1,r1,rfl,h1,x2,r2,rfl,h2,rfl⟩:=h;obtain ⟨a0,rfl,q0⟩:=cf_i h0;obtain ⟨a1,rfl,q1⟩:=cf_i h1;obtain ⟨a2,rfl,q2⟩:=cf_i h2;exact ⟨⟨a0,a1,a2⟩,by first | (simp only [zqh,jc,qq,pn,zwr,gr,gp,ge,gi,jq,ft];done) | (simp only [zqh,jc,qq,pn,zwr,gr,gp,ge,gi,jq,ft];rfl),q0,q1,q2⟩
def zws:Sh:=.struct [.str,(.int .i64)]
def yh7 (x:Edge):Prop:=x.name.size<big/\inI x.node
theorem ymq {t:T} (h:conf zws t):∃ x:Edge,t=zqi x/\yh7 x:=by
  obtain ⟨cs,rfl,x0,r0,rfl,h0,x1,r1,rfl,h1,rfl⟩:=h;obtain ⟨a0,rfl,q0⟩:=ykt h0;obtain ⟨a1,rfl,q1⟩:=cf_i h1;exact ⟨⟨a0,a1⟩,by first | (simp only [zqi,jc,qq,pn,zws,gr,gp,ge,gi,jq,ft];done) | (simp only [zqi,jc,qq,pn,zws,gr,gp,ge,gi,jq,ft];rfl),q0,q1⟩
def yfz:Sh:=.struct [(.slice zwq),(.slice zwr),(.slice zws)]
def yla (x:Net):Prop:=(x.nodes.length<big/\∀ y,y∈x.nodes->yh4 y)/\(x.links.length<big/\∀ y,y∈x.links->yh6 y)/\(x.edges.length<big/\∀ y,y∈x.edges->yh7 y)
theorem yom {t:T} (h:conf yfz t):∃ x:Net,t=eNet x/\yla x:=by
  obtain ⟨cs,rfl,x0,r0,rfl,h0,x1,r1,rfl,h1,x2,r2,rfl,h2,rfl⟩:=h;obtain ⟨a0,rfl,q0⟩:=zkf (fun _ hh=>ymn hh) h0;obtain ⟨a1,rfl,q1⟩:=zkf (fun _ hh=>ymp hh) h1;obtain ⟨a2,rfl,q2⟩:=zkf (fun _ hh=>ymq hh) h2;exact ⟨⟨a0,a1,a2⟩,by first | (simp only [eNet,zf0,zqg,zf1,zqh,zf2,zqi,jc,qq,pn,yfz,zwq,zwr,zws,gr,gp,ge,gi,jq,ft];done) | (simp only [eNet,zf0,zqg,zf1,zqh,zf2,zqi,jc,qq,pn,yfz,zwq,zwr,zws,gr,gp,ge,gi,jq,ft];rfl),q0,q1,q2⟩
def ze2 (k:Nat) (n:Net):Nat->Int->(List ByteArray)->Nat->Option (List ByteArray×Nat)
 |0,_,_,_=>none
 |m+1,i,l,n2=>(if i<(n.nodes.length:Int) then (if 0<=i/\i<(n.nodes.length:Int) then (if (n2+1)*17<=1000000000 then ze2 k n m (fh.wrap (i+1)) (l++[(gx n.nodes i).name]) (n2+1) else none) else none) else some (l,n2))
def ze1 (k:Nat) (n:Net):Nat->Int->(List ByteArray)->Nat->Option (List ByteArray×Nat)
 |0,_,_,_=>none
 |m+1,i2,l2,n3=>(if i2<(n.edges.length:Int) then (if 0<=i2/\i2<(n.edges.length:Int) then (if (n3+1)*17<=1000000000 then ze1 k n m (fh.wrap (i2+1)) (l2++[(gx n.edges i2).name]) (n3+1) else none) else none) else some (l2,n3))
def zk6 (k:Nat) (n:Net):Option (List ByteArray×List ByteArray):=((ze2 k n k 0 [] 0:Option (List ByteArray×Nat)).bind fun s_=>((ze1 k n k 0 [] 0:Option (List ByteArray×Nat)).bind fun s_2=>(if s_.1.length=s_.2 then (if s_2.1.length=s_2.2 then some (s_.1,s_2.1) else none) else none)))
theorem zy5 (ax:Axs) (hx:NoAx ax) (k:Nat) (n:Net) (v:List ByteArray×List ByteArray) (H:zk6 k n=some v):Pure Try.prog (EE ax) [] 50 [eNet n] (tupT [strs v.1,strs v.2]):=by
 rw [zk6] at H;refine enN [.tmp 2,.tmp 3] 42 [0] (hx.no _ (by decide)) (fn50 ax) ?_;intro h hh;apply ff;refine rk [1] [] hh fun h hh=>?_;apply ff;refine rk [1,4] [] hh fun h hh=>?_;refine vk 4 1 [1,4] hh fun h hh=>?_;apply ff;refine rk [1,4,5] [] hh fun h hh=>?_;refine vk 5 1 [1,4,5] hh fun h hh=>?_;repeat apply ff
 refine rk [1,4,5,6] [] hh fun h hh=>?_;obtain ⟨s_,H1,H⟩:=zab H;refine cu [1,4,5] 3 (fun h bs=>(h 1=.ptr 0 0 3/\h 4=.arr 1 1 0 s_.2 s_.2 s_.2/\h 5=.arr 2 1 0 0 0 0)/\bs=[.cells true 3 [zf0 n.nodes,zf1 n.links,zf2 n.edges],.cells false s_.2 (s_.1.map pf),.cells false 0 ([].map pf)]) ?_ ?_
 .skip;apply gj;refine ji [1,4,5,6] (fun m h bs=>∃ (i:Int) (l:List ByteArray) (n2:Nat),ze2 k n m i l n2=some s_/\(h 1=.ptr 0 0 3/\h 4=.arr 1 1 0 n2 n2 n2/\h 5=.arr 2 1 0 0 0 0/\h 6=.int .i64 i)/\bs=[.cells true 3 [zf0 n.nodes,zf1 n.links,zf2 n.edges],.cells false n2 (l.map pf),.cells false 0 ([].map pf)]) ?_ k _ _ ?_;rotate_left
  .exact ⟨0,[],0,H1,kq hh,rfl⟩
  clear hh h H1;rintro m h bs ⟨i,l,n2,H1,hh,rfl⟩;rcases m with _|m
  .rw [ze2] at H1;cases H1
  rw [ze2] at H1;repeat apply ff
  refine rk [1,4,5,6,12] [] hh fun h hh=>?_;rcases isp H1 with ⟨c1,H1⟩|⟨c1,H1⟩;rotate_left
  .skip;refine cf (f2 hh (zAb c1)) ?_;refine xk ?_;cases H1;exact ce hh ⟨kq hh,rfl⟩
  refine ct (f2 hh (zAa c1)) ?_;refine sk ?_;apply ff;apply gj;obtain ⟨g2,H1⟩:=isg H1;obtain ⟨g3,H1⟩:=isg H1;refine rg [] [] [.cells true 3 [zf0 n.nodes,zf1 n.links,zf2 n.edges],.cells false (n2+1) ((l++[(gx n.nodes i).name]).map pf),.cells false 0 ([].map pf)] (fun h=>h 1=.ptr 0 0 3/\h 4=.arr 1 1 0 (n2+1) (n2+1) (n2+1)/\h 5=.arr 2 1 0 0 0 0/\h 6=.int .i64 i) (f2 hh (zag g2)) trivial fun h hh=>?_;refine rk [1,4,5,6] [] hh fun h hh=>?_;exact rd m hh ⟨(fh.wrap (i+1)),(l++[(gx n.nodes i).name]),(n2+1),H1,kq hh,rfl⟩
 clear hh h;rintro h bs ⟨hh,rfl⟩;repeat apply ff
 refine rk [1,4,5,7] [] hh fun h hh=>?_;obtain ⟨s_2,H1,H⟩:=zab H;refine cu [4,5] 3 (fun h bs=>(h 4=.arr 1 1 0 s_.2 s_.2 s_.2/\h 5=.arr 2 1 0 s_2.2 s_2.2 s_2.2)/\bs=[.cells true 3 [zf0 n.nodes,zf1 n.links,zf2 n.edges],.cells false s_.2 (s_.1.map pf),.cells false s_2.2 (s_2.1.map pf)]) ?_ ?_
 .skip;apply gj;refine ji [1,4,5,7] (fun m h bs=>∃ (i2:Int) (l2:List ByteArray) (n3:Nat),ze1 k n m i2 l2 n3=some s_2/\(h 1=.ptr 0 0 3/\h 4=.arr 1 1 0 s_.2 s_.2 s_.2/\h 5=.arr 2 1 0 n3 n3 n3/\h 7=.int .i64 i2)/\bs=[.cells true 3 [zf0 n.nodes,zf1 n.links,zf2 n.edges],.cells false s_.2 (s_.1.map pf),.cells false n3 (l2.map pf)]) ?_ k _ _ ?_;rotate_left
  .exact ⟨0,[],0,H1,kq hh,rfl⟩
  clear hh h H1;rintro m h bs ⟨i2,l2,n3,H1,hh,rfl⟩;rcases m with _|m
  .rw [ze1] at H1;cases H1
  rw [ze1] at H1;repeat apply ff
  refine rk [1,4,5,7,28] [] hh fun h hh=>?_;rcases isp H1 with ⟨c4,H1⟩|⟨c4,H1⟩;rotate_left
  .skip;refine cf (f2 hh (zAb c4)) ?_;refine xk ?_;cases H1;exact ce hh ⟨kq hh,rfl⟩
  refine ct (f2 hh (zAa c4)) ?_;refine sk ?_;apply ff;apply gj;obtain ⟨g5,H1⟩:=isg H1;obtain ⟨g6,H1⟩:=isg H1;refine rg [] [] [.cells true 3 [zf0 n.nodes,zf1 n.links,zf2 n.edges],.cells false s_.2 (s_.1.map pf),.cells false (n3+1) ((l2++[(gx n.edges i2).name]).map pf)] (fun h=>h 1=.ptr 0 0 3/\h 4=.arr 1 1 0 s_.2 s_.2 s_.2/\h 5=.arr 2 1 0 (n3+1) (n3+1) (n3+1)/\h 7=.int .i64 i2) (f2 hh (zag g5)) trivial fun h hh=>?_;refine rk [1,4,5,7] [] hh fun h hh=>?_;exact rd m hh ⟨(fh.wrap (i2+1)),(l2++[(gx n.edges i2).name]),(n3+1),H1,kq hh,rfl⟩
 clear hh h;rintro h bs ⟨hh,rfl⟩;apply ff;refine rk [2,3] [] hh fun h hh=>?_;obtain ⟨g7,H⟩:=isg H;obtain ⟨g8,H⟩:=isg H;refine TW.freeze 2 (b:=1) (e:=1) (off:=0) (len:=s_.2) (cap:=s_.2) (M:=s_.2) (s_.1.map pf) (kq hh) (by rfl) (by omega) (by omega) (by rw [gl,Nat.mul_one,zll (fun _=>rfl),ii (by rw [fq];omega)]) (fun t ht=>by obtain ⟨x,_,rfl⟩:=jn.1 ht;first|rfl|exact zga _|exact za2 _|exact zd2 _|exact zau _ | (rw [fq];rfl)) (by rw [fq]<;>exact g7) (by omega) ?_;rw [zed _ _ _ (by simp only [lzA]<;>omega)];simp only [scA];refine gk [2,3] hh fun h hh=>?_;refine TW.freeze 3 (b:=2) (e:=1) (off:=0) (len:=s_2.2) (cap:=s_2.2) (M:=s_2.2) (s_2.1.map pf) (kq hh) (by rfl) (by omega) (by omega) (by rw [gl,Nat.mul_one,zll (fun _=>rfl),ii (by rw [fq];omega)]) (fun t ht=>by obtain ⟨x,_,rfl⟩:=jn.1 ht;first|rfl|exact zga _|exact za2 _|exact zd2 _|exact zau _ | (rw [fq];rfl)) (by rw [fq]<;>exact g8) (by omega) ?_;rw [zed _ _ _ (by simp only [lzA]<;>omega)];simp only [scA];refine gk [2,3] hh fun h hh=>?_;cases H;exact rt hh
def zeo (k:Nat) (s_:ByteArray):Nat->Int->Option (Bool ⊕ Unit)
 |0,_=>none
 |m+1,i=>(if i<(s_.size:Int) then (((if 0<=i/\i<(s_.size:Int) then (if 97<=((bx s_ i).toNat:Int) then some (decide (((bx s_ i).toNat:Int)<=122)) else some false) else none):Option Bool).bind fun s_3=>(((if 0<=i/\i<(s_.size:Int) then (if 48<=((bx s_ i).toNat:Int) then (if ((bx s_ i).toNat:Int)<=57 then some true else some (decide (((bx s_ i).toNat:Int)=95))) else some (decide (((bx s_ i).toNat:Int)=95))) else none):Option Bool).bind fun s_4=>(if s_3=true then zeo k s_ m (fh.wrap (i+1)) else (if s_4=true then (if i=0 then some (.inl false) else zeo k s_ m (fh.wrap (i+1))) else some (.inl false))))) else some (.inr ()))
def zmu (k:Nat) (s_:ByteArray):Option Bool:=((zeo k s_ k 0:Option (Bool ⊕ Unit)).bind fun o=>kp (fun r=>some r) (fun s_2=>(if 1<=(s_.size:Int) then some (decide ((s_.size:Int)<=24)) else some false)) o)
theorem z0y (ax:Axs) (hx:NoAx ax) (k:Nat) (s_:ByteArray) (v:Bool) (H:zmu k s_=some v):Pure Try.prog (EE ax) [] 67 [.str s_] (.bool v):=by
 rw [zmu] at H;refine en [.tmp 2] 56 [0] (hx.no _ (by decide)) (fn67 ax) ?_;intro h hh;apply ff;refine rk [0] [] hh fun h hh=>?_;repeat apply ff
 refine rk [0,3] [] hh fun h hh=>?_;obtain ⟨o,H1,H⟩:=zab H;refine cu [0] 0 (fun h bs=>∃ s_2:Unit,o=.inr s_2/\(h 0=.str s_)/\bs=[]) ?_ ?_
 .skip;apply gj;refine ji [0,3] (fun m h bs=>∃ (i:Int),zeo k s_ m i=some o/\(h 0=.str s_/\h 3=.int .i64 i)/\bs=[]) ?_ k _ _ ?_;rotate_left
  .exact ⟨0,H1,kq hh,rfl⟩
  clear hh h H1;rintro m h bs ⟨i,H1,hh,rfl⟩;rcases m with _|m
  .rw [zeo] at H1;cases H1
  rw [zeo] at H1;repeat apply ff
  refine rk [0,3,9] [] hh fun h hh=>?_;rcases isp H1 with ⟨c1,H1⟩|⟨c1,H1⟩;rotate_left
  .skip;refine cf (f2 hh (zAb c1)) ?_;refine xk ?_;cases H1;exact ce hh ⟨_,rfl,kq hh,rfl⟩
  refine ct (f2 hh (zAa c1)) ?_;refine sk ?_;apply ff;apply gj;obtain ⟨s_3,H2,H1⟩:=zab H1;apply ff;refine cu [0,3,4] 0 (fun h bs=>(h 0=.str s_/\h 3=.int .i64 i/\h 4=.bool s_3)/\bs=[]) ?_ ?_
  .skip;obtain ⟨g2,H2⟩:=isg H2;rcases isp H2 with ⟨c3,H2⟩|⟨c3,H2⟩;rotate_left
   .skip;refine rk [0,3,4] [] (f3 hh (zAb c3) (zvc g2)) fun h hh=>?_;cases H2;exact ce hh ⟨kq hh,rfl⟩
   refine rk [0,3,4] [] (f3 hh (zAa c3) (zvc g2)) fun h hh=>?_;cases H2;exact ce hh ⟨kq hh,rfl⟩
  clear hh h;rintro h bs ⟨hh,rfl⟩;obtain ⟨s_4,H2,H1⟩:=zab H1;apply ff;refine cu [0,3,4,5] 0 (fun h bs=>(h 0=.str s_/\h 3=.int .i64 i/\h 4=.bool s_3/\h 5=.bool s_4)/\bs=[]) ?_ ?_
  .skip;obtain ⟨g4,H2⟩:=isg H2;rcases isp H2 with ⟨c5,H2⟩|⟨c5,H2⟩;rotate_left
   .skip;refine rk [0,3,4,5] [] (f3 hh (zAb c5) (zvc g4)) fun h hh=>?_;cases H2;exact ce hh ⟨kq hh,rfl⟩
   rcases isp H2 with ⟨c6,H2⟩|⟨c6,H2⟩;rotate_left
   .skip;refine rk [0,3,4,5] [] (f3 hh (zAa c5) (f2 (zAb c6) (zvc g4))) fun h hh=>?_;cases H2;exact ce hh ⟨kq hh,rfl⟩
   refine rk [0,3,4,5] [] (f3 hh (zAa c5) (f2 (zAa c6) (zvc g4))) fun h hh=>?_;cases H2;exact ce hh ⟨kq hh,rfl⟩
  clear hh h;rintro h bs ⟨hh,rfl⟩;rcases isb H1 with ⟨c7,H1⟩|⟨c7,H1⟩;rotate_left
  .skip;rcases isb H1 with ⟨c8,H1⟩|⟨c8,H1⟩;rotate_left
   .skip;apply ff;refine rk [0,3,47] [] (f3 hh c7 c8) fun h hh=>?_;refine ct hh ?_;apply ff;refine rk [2] [] (f3 hh c7 c8) fun h hh=>?_;cases H1;obtain rfl:=sinl H;exact rt hh
   apply ff;refine rk [0,3,47] [] (f3 hh c7 c8) fun h hh=>?_;rcases isp H1 with ⟨c9,H1⟩|⟨c9,H1⟩;rotate_left
   .skip;refine cf (f2 hh (zAb c9)) ?_;refine sk ?_;refine rk [0,3] [] (f3 hh c7 c8) fun h hh=>?_;exact rd m hh ⟨(fh.wrap (i+1)),H1,kq hh,rfl⟩
   refine ct (f2 hh (zAa c9)) ?_;apply ff;refine rk [2] [] (f3 hh c7 c8) fun h hh=>?_;cases H1;obtain rfl:=sinl H;exact rt hh
  apply ff;refine rk [0,3,47] [] (f2 hh c7) fun h hh=>?_;refine cf hh ?_;refine sk ?_;refine rk [0,3] [] (f2 hh c7) fun h hh=>?_;exact rd m hh ⟨(fh.wrap (i+1)),H1,kq hh,rfl⟩
 clear hh h;rintro h bs ⟨s_2,rfl,hh,rfl⟩;replace H:=sinr H;rcases isp H with ⟨c10,H⟩|⟨c10,H⟩;rotate_left
 .skip;apply ff;refine rk [2] [] (f2 hh (zAb c10)) fun h hh=>?_;cases H;exact rt hh
 apply ff;refine rk [2] [] (f2 hh (zAa c10)) fun h hh=>?_;cases H;exact rt hh
def zez (k:Nat) (l:List ByteArray) (i:Int):Nat->Int->Option (Bool ⊕ Unit)
 |0,_=>none
 |m+1,k_=>(if k_<i then (if 0<=k_/\k_<(l.length:Int) then (if (gx l k_)=(gx l i) then some (.inl false) else zez k l i m (fh.wrap (k_+1))) else none) else some (.inr ()))
def ze0 (k:Nat) (l:List ByteArray):Nat->Int->Option (Bool ⊕ Unit)
 |0,_=>none
 |m+1,i=>(if i<(l.length:Int) then (((if 0<=i/\i<(l.length:Int) then ((zmu k (gx l i)).bind fun eh=>(if eh=true then ((zez k l i k 0:Option (Bool ⊕ Unit)).bind fun o=>kp (fun r=>some (.inl r)) (fun s_3=>some (.inr ())) o) else some (.inl false))) else none):Option (Bool ⊕ Unit)).bind fun o2=>kp (fun r=>some (.inl r)) (fun s_2=>ze0 k l m (fh.wrap (i+1))) o2) else some (.inr ()))
def zjj (k:Nat) (l:List ByteArray):Option Bool:=((ze0 k l k 0:Option (Bool ⊕ Unit)).bind fun o3=>kp (fun r=>some r) (fun s_=>some true) o3)
theorem zpf (ax:Axs) (hx:NoAx ax) (k:Nat) (l:List ByteArray) (v:Bool) (H:zjj k l=some v):Pure Try.prog (EE ax) [] 51 [strs l] (.bool v):=by
 rw [zjj] at H;refine en [.tmp 2] 33 [0] (hx.no _ (by decide)) (fn51 ax) ?_;intro h hh;apply ff;refine rk [0] [] hh fun h hh=>?_;repeat apply ff
 refine rk [0,3] [] hh fun h hh=>?_;obtain ⟨o3,H1,H⟩:=zab H;refine cu [] 0 (fun h bs=>∃ s_:Unit,o3=.inr s_/\(True)/\bs=[]) ?_ ?_
 .skip;apply gj;refine ji [0,3] (fun m h bs=>∃ (i:Int),ze0 k l m i=some o3/\(h 0=strs l/\h 3=.int .i64 i)/\bs=[]) ?_ k _ _ ?_;rotate_left
  .exact ⟨0,H1,kq hh,rfl⟩
  clear hh h H1;rintro m h bs ⟨i,H1,hh,rfl⟩;rcases m with _|m
  .rw [ze0] at H1;cases H1
  rw [ze0] at H1;repeat apply ff
  refine rk [0,3,9] [] hh fun h hh=>?_;rcases isp H1 with ⟨c1,H1⟩|⟨c1,H1⟩;rotate_left
  .skip;refine cf (f2 hh (zAb c1)) ?_;refine xk ?_;cases H1;exact ce hh ⟨_,rfl,kq hh,rfl⟩
  refine ct (f2 hh (zAa c1)) ?_;refine sk ?_;obtain ⟨o2,H2,H1⟩:=zab H1;apply ff;refine cu [0,3] 0 (fun h bs=>∃ s_2:Unit,o2=.inr s_2/\(h 0=strs l/\h 3=.int .i64 i)/\bs=[]) ?_ ?_
  .skip;apply gj;obtain ⟨g2,H2⟩:=isg H2;obtain ⟨eh,e3,H2⟩:=zab H2;apply ff;refine rkp [0,3,4] [] [.bool eh] (f2 hh (zag g2)) ?_ ?_
   .exact ⟨gc ((z0y ax hx k (gx l i) eh e3 ).call _),trivial⟩
   clear hh h;intro h hh;repeat apply ff
   refine rk [0,3,18] [] hh fun h hh=>?_;rcases isb H2 with ⟨c4,H2⟩|⟨c4,H2⟩;rotate_left
   .skip;refine ct (f2 hh c4) ?_;apply ff;refine rk [2] [] (f2 hh c4) fun h hh=>?_;cases H2;obtain rfl:=sinm H1;obtain rfl:=sinl H;exact rt hh
   refine cf (f2 hh c4) ?_;refine sk ?_;apply ff;refine rk [0,3,5] [] (f2 hh c4) fun h hh=>?_;obtain ⟨o,H3,H2⟩:=zab H2;refine cu [0,3] 0 (fun h bs=>∃ s_3:Unit,o=.inr s_3/\(h 0=strs l/\h 3=.int .i64 i)/\bs=[]) ?_ ?_
   .skip;apply gj;refine ji [0,3,5] (fun m h bs=>∃ (k_:Int),zez k l i m k_=some o/\(h 0=strs l/\h 3=.int .i64 i/\h 5=.int .i64 k_)/\bs=[]) ?_ k _ _ ?_;rotate_left
    .exact ⟨0,H3,kq hh,rfl⟩
    clear hh h H3;rintro m h bs ⟨k_,H3,hh,rfl⟩;rcases m with _|m
    .rw [zez] at H3;cases H3
    rw [zez] at H3;repeat apply ff
    refine rk [0,3,5,21] [] (f2 hh c4) fun h hh=>?_;rcases isp H3 with ⟨c5,H3⟩|⟨c5,H3⟩;rotate_left
    .skip;refine cf (f2 hh (zAb c5)) ?_;refine xk ?_;cases H3;exact ce hh ⟨_,rfl,kq hh,rfl⟩
    refine ct (f2 hh (zAa c5)) ?_;refine sk ?_;apply ff;apply gj;obtain ⟨g6,H3⟩:=isg H3;apply ff;refine dk 8 [0,3,5,32] [] [] [] (f3 hh c4 (f2 (zag g6) (zag g2))) trivial trivial fun h hh=>?_;rcases isp H3 with ⟨c7,H3⟩|⟨c7,H3⟩;rotate_left
    .skip;refine cf (f2 hh (zAb c7)) ?_;refine sk ?_;refine rk [0,3,5] [] (f2 hh c4) fun h hh=>?_;exact rd m hh ⟨(fh.wrap (k_+1)),H3,kq hh,rfl⟩
    refine ct (f2 hh (zAa c7)) ?_;apply ff;refine rk [2] [] (f2 hh c4) fun h hh=>?_;cases H3;obtain rfl:=sinm H2;obtain rfl:=sinm H1;obtain rfl:=sinl H;exact rt hh
   clear hh h;rintro h bs ⟨s_3,rfl,hh,rfl⟩;replace H2:=sinr H2;cases H2;exact ce hh ⟨_,rfl,kq hh,rfl⟩
  clear hh h;rintro h bs ⟨s_2,rfl,hh,rfl⟩;replace H1:=sinr H1;refine rk [0,3] [] hh fun h hh=>?_;exact rd m hh ⟨(fh.wrap (i+1)),H1,kq hh,rfl⟩
 clear hh h;rintro h bs ⟨s_,rfl,hh,rfl⟩;replace H:=sinr H;apply ff;refine rk [2] [] hh fun h hh=>?_;cases H;exact rt hh
def zg1 (k:Nat) (n:Net) (k_:Int):Option Bool:=(if 0<=k_ then some (decide (k_<(n.nodes.length:Int))) else some false)
theorem zb5 (ax:Axs) (hx:NoAx ax) (k:Nat) (n:Net) (k_:Int) (v:Bool) (H:zg1 k n k_=some v):Pure Try.prog (EE ax) [] 52 [eNet n,.int .i64 k_] (.bool v):=by
 rw [zg1] at H;refine en [.tmp 4] 14 [0,1] (hx.no _ (by decide)) (fn52 ax) ?_;intro h hh;apply ff;refine rk [1,2] [] hh fun h hh=>?_;rcases isp H with ⟨c1,H⟩|⟨c1,H⟩;rotate_left
 .skip;apply ff;refine rk [4] [] (f2 hh (zAb c1)) fun h hh=>?_;cases H;exact rt hh
 apply ff;refine rk [4] [] (f2 hh (zAa c1)) fun h hh=>?_;cases H;exact rt hh
def ze5 (k:Nat) (n:Net):Nat->Int->Option (Int ⊕ Unit)
 |0,_=>none
 |m+1,i=>(if i<(n.nodes.length:Int) then (if 0<=i/\i<(n.nodes.length:Int) then (if ((gx n.nodes i).rules)<0 then some (.inl 1) else (if 4000<((gx n.nodes i).rules) then some (.inl 1) else (if ((gx n.nodes i).entries)<0 then some (.inl 1) else (if 100000<((gx n.nodes i).entries) then some (.inl 1) else ze5 k n m (fh.wrap (i+1)))))) else none) else some (.inr ()))
def ze4 (k:Nat) (n:Net):Nat->Int->Option (Int ⊕ Unit)
 |0,_=>none
 |m+1,i2=>(if i2<(n.links.length:Int) then (if 0<=i2/\i2<(n.links.length:Int) then ((zg1 k n ((gx n.links i2).frm)).bind fun br=>(if br=true then ((zg1 k n ((gx n.links i2).to)).bind fun bw=>(if bw=true then (if ((gx n.links i2).frm)=((gx n.links i2).to) then some (.inl 1) else (if ((gx n.links i2).cap)<0 then some (.inl 1) else (if 1048576<((gx n.links i2).cap) then some (.inl 1) else ze4 k n m (fh.wrap (i2+1))))) else some (.inl 1))) else some (.inl 1))) else none) else some (.inr ()))
def ze3 (k:Nat) (n:Net):Nat->Int->Option (Int ⊕ Unit)
 |0,_=>none
 |m+1,i3=>(if i3<(n.edges.length:Int) then (if 0<=i3/\i3<(n.edges.length:Int) then ((zg1 k n ((gx n.edges i3).node)).bind fun ei=>(if ei=true then ze3 k n m (fh.wrap (i3+1)) else some (.inl 1))) else none) else some (.inr ()))
def zk7 (k:Nat) (n:Net):Option Int:=(((if 200<(n.nodes.length:Int) then some true else (if 2000<(n.links.length:Int) then some true else some (decide (400<(n.edges.length:Int))))):Option Bool).bind fun s_=>(if s_=true then some 2 else ((zk6 k n).bind fun cl=>((zjj k cl.1).bind fun ej=>((zjj k cl.2).bind fun ek=>(((if ej=true then some (!ek) else some true):Option Bool).bind fun s_2=>(if s_2=true then some 4 else ((ze5 k n k 0:Option (Int ⊕ Unit)).bind fun o3=>kp (fun r=>some r) (fun s_3=>((ze4 k n k 0:Option (Int ⊕ Unit)).bind fun o2=>kp (fun r=>some r) (fun s_4=>((ze3 k n k 0:Option (Int ⊕ Unit)).bind fun o=>kp (fun r=>some r) (fun s_5=>some 0) o)) o2)) o3))))))))
theorem zy6 (ax:Axs) (hx:NoAx ax) (k:Nat) (n:Net) (v:Int) (H:zk7 k n=some v):Pure Try.prog (EE ax) [] 29 [eNet n] (.int .i64 v):=by
 rw [zk7] at H;refine en [.tmp 2] 130 [0] (hx.no _ (by decide)) (fn29 ax) ?_;intro h hh;apply ff;refine rk [1] [] hh fun h hh=>?_;obtain ⟨s_,H1,H⟩:=zab H;repeat apply ff
 refine cu [1,27] 1 (fun h bs=>(h 1=.ptr 0 0 3/\h 27=.bool s_)/\bs=[.cells true 3 [zf0 n.nodes,zf1 n.links,zf2 n.edges]]) ?_ ?_
 .skip;rcases isp H1 with ⟨c1,H1⟩|⟨c1,H1⟩;rotate_left
  .skip;rcases isp H1 with ⟨c2,H1⟩|⟨c2,H1⟩;rotate_left
   .skip;refine rk [1,27] [] (f3 hh (zAb c1) (zAb c2)) fun h hh=>?_;cases H1;exact ce hh ⟨kq hh,rfl⟩
   refine rk [1,27] [] (f3 hh (zAb c1) (zAa c2)) fun h hh=>?_;cases H1;exact ce hh ⟨kq hh,rfl⟩
  refine rk [1,27] [] (f2 hh (zAa c1)) fun h hh=>?_;cases H1;exact ce hh ⟨kq hh,rfl⟩
 clear hh h;rintro h bs ⟨hh,rfl⟩;rcases isb H with ⟨c3,H⟩|⟨c3,H⟩;rotate_left
 .skip;refine cf (f2 hh c3) ?_;refine sk ?_;obtain ⟨cl,e4,H⟩:=zab H;apply ff;refine rkp [1,3,4] [] [.tup [strs cl.1,strs cl.2]] (f2 hh c3) ?_ ?_
  .exact ⟨gc (ja (zy5 ax hx k n cl e4 ) (by first|rfl|simp only [c3])),trivial⟩
  clear hh h;intro h hh;obtain ⟨ej,e5,H⟩:=zab H;apply ff;refine rkp [1,4,5] [] [.bool ej] (f2 hh c3) ?_ ?_
  .exact ⟨gc (ja (zpf ax hx k cl.1 ej e5 ) (by first|rfl|simp only [c3])),trivial⟩
  clear hh h;intro h hh;obtain ⟨ek,e6,H⟩:=zab H;apply ff;refine rkp [1,5,6] [] [.bool ek] (f2 hh c3) ?_ ?_
  .exact ⟨gc (ja (zpf ax hx k cl.2 ek e6 ) (by first|rfl|simp only [c3])),trivial⟩
  clear hh h;intro h hh;obtain ⟨s_2,H1,H⟩:=zab H;repeat apply ff
  refine cu [1,42] 1 (fun h bs=>(h 1=.ptr 0 0 3/\h 42=.bool s_2)/\bs=[.cells true 3 [zf0 n.nodes,zf1 n.links,zf2 n.edges]]) ?_ ?_
  .skip;rcases isb H1 with ⟨c7,H1⟩|⟨c7,H1⟩;rotate_left
   .skip;refine rk [1,42] [] (f3 hh c7 c3) fun h hh=>?_;cases H1;exact ce hh ⟨kq hh,rfl⟩
   refine rk [1,42] [] (f3 hh c7 c3) fun h hh=>?_;cases H1;exact ce hh ⟨kq hh,rfl⟩
  clear hh h;rintro h bs ⟨hh,rfl⟩;rcases isb H with ⟨c8,H⟩|⟨c8,H⟩;rotate_left
  .skip;refine cf (f2 hh c8) ?_;refine sk ?_;repeat apply ff
   refine rk [1,7] [] (f3 hh c3 c8) fun h hh=>?_;obtain ⟨o3,H1,H⟩:=zab H;refine cu [1] 1 (fun h bs=>∃ s_3:Unit,o3=.inr s_3/\(h 1=.ptr 0 0 3)/\bs=[.cells true 3 [zf0 n.nodes,zf1 n.links,zf2 n.edges]]) ?_ ?_
   .skip;apply gj;refine ji [1,7] (fun m h bs=>∃ (i:Int),ze5 k n m i=some o3/\(h 1=.ptr 0 0 3/\h 7=.int .i64 i)/\bs=[.cells true 3 [zf0 n.nodes,zf1 n.links,zf2 n.edges]]) ?_ k _ _ ?_;rotate_left
    .exact ⟨0,H1,kq hh,rfl⟩
    clear hh h H1;rintro m h bs ⟨i,H1,hh,rfl⟩;rcases m with _|m
    .rw [ze5] at H1;cases H1
    rw [ze5] at H1;repeat apply ff
    refine rk [1,7,47] [] (f3 hh c3 c8) fun h hh=>?_;rcases isp H1 with ⟨c9,H1⟩|⟨c9,H1⟩;rotate_left
    .skip;refine cf (f2 hh (zAb c9)) ?_;refine xk ?_;cases H1;exact ce hh ⟨_,rfl,kq hh,rfl⟩
    refine ct (f2 hh (zAa c9)) ?_;refine sk ?_;apply ff;apply gj;obtain ⟨g10,H1⟩:=isg H1;apply ff;refine rk [1,7,8] [] (f3 hh c3 (f2 c8 (zag g10))) fun h hh=>?_;rcases isp H1 with ⟨c11,H1⟩|⟨c11,H1⟩;rotate_left
    .skip;rcases isp H1 with ⟨c12,H1⟩|⟨c12,H1⟩;rotate_left
     .skip;rcases isp H1 with ⟨c13,H1⟩|⟨c13,H1⟩;rotate_left
      .skip;apply ff;refine rk [1,7,72] [] (f3 hh (zAb c11) (f3 (zAb c12) (zAb c13) (f2 c3 c8))) fun h hh=>?_;rcases isp H1 with ⟨c14,H1⟩|⟨c14,H1⟩;rotate_left
       .skip;refine cf (f2 hh (zAb c14)) ?_;refine sk ?_;refine rk [1,7] [] (f3 hh c3 c8) fun h hh=>?_;exact rd m hh ⟨(fh.wrap (i+1)),H1,kq hh,rfl⟩
       refine ct (f2 hh (zAa c14)) ?_;apply ff;refine rk [2] [] (f3 hh c3 c8) fun h hh=>?_;cases H1;obtain rfl:=sinl H;exact rt hh
      apply ff;refine rk [1,7,72] [] (f3 hh (zAb c11) (f3 (zAb c12) (zAa c13) (f2 c3 c8))) fun h hh=>?_;refine ct hh ?_;apply ff;refine rk [2] [] (f3 hh c3 c8) fun h hh=>?_;cases H1;obtain rfl:=sinl H;exact rt hh
     apply ff;refine rk [1,7,72] [] (f3 hh (zAb c11) (f3 (zAa c12) c3 c8)) fun h hh=>?_;refine ct hh ?_;apply ff;refine rk [2] [] (f3 hh c3 c8) fun h hh=>?_;cases H1;obtain rfl:=sinl H;exact rt hh
    apply ff;refine rk [1,7,72] [] (f3 hh (zAa c11) (f2 c3 c8)) fun h hh=>?_;refine ct hh ?_;apply ff;refine rk [2] [] (f3 hh c3 c8) fun h hh=>?_;cases H1;obtain rfl:=sinl H;exact rt hh
   clear hh h;rintro h bs ⟨s_3,rfl,hh,rfl⟩;replace H:=sinr H;repeat apply ff
   refine rk [1,9] [] (f3 hh c3 c8) fun h hh=>?_;obtain ⟨o2,H1,H⟩:=zab H;refine cu [1] 1 (fun h bs=>∃ s_4:Unit,o2=.inr s_4/\(h 1=.ptr 0 0 3)/\bs=[.cells true 3 [zf0 n.nodes,zf1 n.links,zf2 n.edges]]) ?_ ?_
   .skip;apply gj;refine ji [1,9] (fun m h bs=>∃ (i2:Int),ze4 k n m i2=some o2/\(h 1=.ptr 0 0 3/\h 9=.int .i64 i2)/\bs=[.cells true 3 [zf0 n.nodes,zf1 n.links,zf2 n.edges]]) ?_ k _ _ ?_;rotate_left
    .exact ⟨0,H1,kq hh,rfl⟩
    clear hh h H1;rintro m h bs ⟨i2,H1,hh,rfl⟩;rcases m with _|m
    .rw [ze4] at H1;cases H1
    rw [ze4] at H1;repeat apply ff
    refine rk [1,9,77] [] (f3 hh c3 c8) fun h hh=>?_;rcases isp H1 with ⟨c15,H1⟩|⟨c15,H1⟩;rotate_left
    .skip;refine cf (f2 hh (zAb c15)) ?_;refine xk ?_;cases H1;exact ce hh ⟨_,rfl,kq hh,rfl⟩
    refine ct (f2 hh (zAa c15)) ?_;refine sk ?_;apply ff;apply gj;obtain ⟨g16,H1⟩:=isg H1;apply ff;refine rk [1,9,10] [] (f3 hh c3 (f2 c8 (zag g16))) fun h hh=>?_;obtain ⟨br,e17,H1⟩:=zab H1;rcases isb H1 with ⟨c18,H1⟩|⟨c18,H1⟩;rotate_left
    .skip;apply ff;refine rkp [1,9,113] [] [.bool br] (f3 hh c18 (f2 c3 c8)) ?_ ?_
     .exact ⟨gc (ja (zb5 ax hx k n ((gx n.links i2).frm) br e17 ) (by first|rfl|simp only [c3,c8,c18])),trivial⟩
     clear hh h;intro h hh;refine ct hh ?_;apply ff;refine rk [2] [] (f3 hh c3 (f2 c8 c18)) fun h hh=>?_;cases H1;obtain rfl:=sinl H;exact rt hh
    obtain ⟨bw,e19,H1⟩:=zab H1;rcases isb H1 with ⟨c20,H1⟩|⟨c20,H1⟩;rotate_left
    .skip;apply ff;refine rkp [1,9,113] [] [.bool br,.bool bw] (f3 hh c18 (f3 c20 c3 c8)) ?_ ?_
     .exact ⟨gc (ja (zb5 ax hx k n ((gx n.links i2).frm) br e17 ) (by first|rfl|simp only [c3,c8,c18,c20])),gc (ja (zb5 ax hx k n ((gx n.links i2).to) bw e19 ) (by first|rfl|simp only [c3,c8,c18,c20])),trivial⟩
     clear hh h;intro h hh;refine ct hh ?_;apply ff;refine rk [2] [] (f3 hh c3 (f3 c8 c18 c20)) fun h hh=>?_;cases H1;obtain rfl:=sinl H;exact rt hh
    rcases isp H1 with ⟨c21,H1⟩|⟨c21,H1⟩;rotate_left
    .skip;rcases isp H1 with ⟨c22,H1⟩|⟨c22,H1⟩;rotate_left
     .skip;apply ff;refine rkp [1,9,113] [] [.bool br,.bool bw] (f3 hh c18 (f3 c20 (zAb c21) (f3 (zAb c22) c3 c8))) ?_ ?_
      .exact ⟨gc (ja (zb5 ax hx k n ((gx n.links i2).frm) br e17 ) (by first|rfl|simp only [c3,c8,c18,c20])),gc (ja (zb5 ax hx k n ((gx n.links i2).to) bw e19 ) (by first|rfl|simp only [c3,c8,c18,c20])),trivial⟩
      clear hh h;intro h hh;rcases isp H1 with ⟨c23,H1⟩|⟨c23,H1⟩;rotate_left
      .skip;refine cf (f2 hh (zAb c23)) ?_;refine sk ?_;refine rk [1,9] [] (f3 hh c3 (f3 c8 c18 c20)) fun h hh=>?_;exact rd m hh ⟨(fh.wrap (i2+1)),H1,kq hh,rfl⟩
      refine ct (f2 hh (zAa c23)) ?_;apply ff;refine rk [2] [] (f3 hh c3 (f3 c8 c18 c20)) fun h hh=>?_;cases H1;obtain rfl:=sinl H;exact rt hh
     apply ff;refine rkp [1,9,113] [] [.bool br,.bool bw] (f3 hh c18 (f3 c20 (zAb c21) (f3 (zAa c22) c3 c8))) ?_ ?_
     .exact ⟨gc (ja (zb5 ax hx k n ((gx n.links i2).frm) br e17 ) (by first|rfl|simp only [c3,c8,c18,c20])),gc (ja (zb5 ax hx k n ((gx n.links i2).to) bw e19 ) (by first|rfl|simp only [c3,c8,c18,c20])),trivial⟩
     clear hh h;intro h hh;refine ct hh ?_;apply ff;refine rk [2] [] (f3 hh c3 (f3 c8 c18 c20)) fun h hh=>?_;cases H1;obtain rfl:=sinl H;exact rt hh
    apply ff;refine rkp [1,9,113] [] [.bool br,.bool bw] (f3 hh c18 (f3 c20 (zAa c21) (f2 c3 c8))) ?_ ?_
    .exact ⟨gc (ja (zb5 ax hx k n ((gx n.links i2).frm) br e17 ) (by first|rfl|simp only [c3,c8,c18,c20])),gc (ja (zb5 ax hx k n ((gx n.links i2).to) bw e19 ) (by first|rfl|simp only [c3,c8,c18,c20])),trivial⟩
    clear hh h;intro h hh;refine ct hh ?_;apply ff;refine rk [2] [] (f3 hh c3 (f3 c8 c18 c20)) fun h hh=>?_;cases H1;obtain rfl:=sinl H;exact rt hh
   clear hh h;rintro h bs ⟨s_4,rfl,hh,rfl⟩;replace H:=sinr H;repeat apply ff
   refine rk [1,11] [] (f3 hh c3 c8) fun h hh=>?_;obtain ⟨o,H1,H⟩:=zab H;refine cu [] 1 (fun h bs=>∃ s_5:Unit,o=.inr s_5/\(True)/\bs=[.cells true 3 [zf0 n.nodes,zf1 n.links,zf2 n.edges]]) ?_ ?_
   .skip;apply gj;refine ji [1,11] (fun m h bs=>∃ (i3:Int),ze3 k n m i3=some o/\(h 1=.ptr 0 0 3/\h 11=.int .i64 i3)/\bs=[.cells true 3 [zf0 n.nodes,zf1 n.links,zf2 n.edges]]) ?_ k _ _ ?_;rotate_left
    .exact ⟨0,H1,kq hh,rfl⟩
    clear hh h H1;rintro m h bs ⟨i3,H1,hh,rfl⟩;rcases m with _|m
    .rw [ze3] at H1;cases H1
    rw [ze3] at H1;repeat apply ff
    refine rk [1,11,118] [] (f3 hh c3 c8) fun h hh=>?_;rcases isp H1 with ⟨c24,H1⟩|⟨c24,H1⟩;rotate_left
    .skip;refine cf (f2 hh (zAb c24)) ?_;refine xk ?_;cases H1;exact ce hh ⟨_,rfl,kq hh,rfl⟩
    refine ct (f2 hh (zAa c24)) ?_;refine sk ?_;apply ff;apply gj;obtain ⟨g25,H1⟩:=isg H1;obtain ⟨ei,e26,H1⟩:=zab H1;apply ff;refine dk 7 [1,11,129] [] [] [(.bool ei,stL [.cells true 3 [zf0 n.nodes,zf1 n.links,zf2 n.edges]])] (f3 hh c3 (f2 c8 (zag g25))) trivial ?_ ?_
    .exact ⟨gc (ja (zb5 ax hx k n ((gx n.edges i3).node) ei e26 ) (by first|rfl|simp only [c3,c8])),trivial⟩
    clear hh h;intro h hh;rcases isb H1 with ⟨c27,H1⟩|⟨c27,H1⟩;rotate_left
    .skip;refine ct (f2 hh c27) ?_;apply ff;refine rk [2] [] (f3 hh c3 (f2 c8 c27)) fun h hh=>?_;cases H1;obtain rfl:=sinl H;exact rt hh
    refine cf (f2 hh c27) ?_;refine sk ?_;refine rk [1,11] [] (f3 hh c3 (f2 c8 c27)) fun h hh=>?_;exact rd m hh ⟨(fh.wrap (i3+1)),H1,kq hh,rfl⟩
   clear hh h;rintro h bs ⟨s_5,rfl,hh,rfl⟩;replace H:=sinr H;apply ff;refine rk [2] [] (f3 hh c3 c8) fun h hh=>?_;cases H;exact rt hh
  refine ct (f2 hh c8) ?_;apply ff;refine rk [2] [] (f3 hh c3 c8) fun h hh=>?_;cases H;exact rt hh
 refine ct (f2 hh c3) ?_;apply ff;refine rk [2] [] (f2 hh c3) fun h hh=>?_;cases H;exact rt hh
def zfp (k:Nat) (t:List Rule) (k_:Int):Nat->Int->Option (Bool ⊕ Unit)
 |0,_=>none
 |m+1,i=>(if i<(((gx t k_).outs).length:Int) then (if 0<=i/\i<(((gx t k_).outs).length:Int) then (if 10<((gx ((gx t k_).outs) i).length:Int) then some (.inl false) else zfp k t k_ m (fh.wrap (i+1))) else none) else some (.inr ()))
def zfq (k:Nat) (t:List Rule):Nat->Int->Option (Bool ⊕ Unit)
 |0,_=>none
 |m+1,k_=>(if k_<(t.length:Int) then (((if 0<=k_/\k_<(t.length:Int) then (if 20<(((gx t k_).outs).length:Int) then some (.inl false) else ((zfp k t k_ k 0:Option (Bool ⊕ Unit)).bind fun o=>kp (fun r=>some (.inl r)) (fun s_3=>some (.inr ())) o)) else none):Option (Bool ⊕ Unit)).bind fun o2=>kp (fun r=>some (.inl r)) (fun s_2=>zfq k t m (fh.wrap (k_+1))) o2) else some (.inr ()))
def zpd (k:Nat) (t:List Rule) (most:Int):Option Bool:=((zfq k t k 0:Option (Bool ⊕ Unit)).bind fun o3=>kp (fun r=>some r) (fun s_=>some (decide ((t.length:Int)<=most))) o3)
theorem z33 (ax:Axs) (hx:NoAx ax) (k:Nat) (t:List Rule) (most:Int) (v:Bool) (H:zpd k t most=some v):Pure Try.prog (EE ax) [] 28 [zad t,.int .i64 most] (.bool v):=by
 rw [zpd] at H;refine en [.tmp 4] 44 [0,1] (hx.no _ (by decide)) (fn28 ax) ?_;intro h hh;apply ff;refine rk [0,1] [] hh fun h hh=>?_;repeat apply ff
 refine rk [0,1,5] [] hh fun h hh=>?_;obtain ⟨o3,H1,H⟩:=zab H;refine cu [0,1] 0 (fun h bs=>∃ s_:Unit,o3=.inr s_/\(h 0=zad t/\h 1=.int .i64 most)/\bs=[]) ?_ ?_
 .skip;apply gj;refine ji [0,1,5] (fun m h bs=>∃ (k_:Int),zfq k t m k_=some o3/\(h 0=zad t/\h 1=.int .i64 most/\h 5=.int .i64 k_)/\bs=[]) ?_ k _ _ ?_;rotate_left
  .exact ⟨0,H1,kq hh,rfl⟩
  clear hh h H1;rintro m h bs ⟨k_,H1,hh,rfl⟩;rcases m with _|m
  .rw [zfq] at H1;cases H1
  rw [zfq] at H1;repeat apply ff
  refine rk [0,1,5,10] [] hh fun h hh=>?_;rcases isp H1 with ⟨c1,H1⟩|⟨c1,H1⟩;rotate_left
  .skip;refine cf (f2 hh (zAb c1)) ?_;refine xk ?_;cases H1;exact ce hh ⟨_,rfl,kq hh,rfl⟩
  refine ct (f2 hh (zAa c1)) ?_;refine sk ?_;obtain ⟨o2,H2,H1⟩:=zab H1;apply ff;refine cu [0,1,5] 0 (fun h bs=>∃ s_2:Unit,o2=.inr s_2/\(h 0=zad t/\h 1=.int .i64 most/\h 5=.int .i64 k_)/\bs=[]) ?_ ?_
  .skip;apply gj;obtain ⟨g2,H2⟩:=isg H2;repeat apply ff
   refine rk [0,1,5,19] [] (f2 hh (zag g2)) fun h hh=>?_;rcases isp H2 with ⟨c3,H2⟩|⟨c3,H2⟩;rotate_left
   .skip;refine cf (f2 hh (zAb c3)) ?_;refine sk ?_;apply ff;refine rk [0,1,5,6] [] hh fun h hh=>?_;obtain ⟨o,H3,H2⟩:=zab H2;refine cu [0,1,5] 0 (fun h bs=>∃ s_3:Unit,o=.inr s_3/\(h 0=zad t/\h 1=.int .i64 most/\h 5=.int .i64 k_)/\bs=[]) ?_ ?_
    .skip;apply gj;refine ji [0,1,5,6] (fun m h bs=>∃ (i:Int),zfp k t k_ m i=some o/\(h 0=zad t/\h 1=.int .i64 most/\h 5=.int .i64 k_/\h 6=.int .i64 i)/\bs=[]) ?_ k _ _ ?_;rotate_left
     .exact ⟨0,H3,kq hh,rfl⟩
     clear hh h H3;rintro m h bs ⟨i,H3,hh,rfl⟩;rcases m with _|m
     .rw [zfp] at H3;cases H3
     rw [zfp] at H3;repeat apply ff
     refine rk [0,1,5,6,27] [] (f2 hh (zag g2)) fun h hh=>?_;rcases isp H3 with ⟨c4,H3⟩|⟨c4,H3⟩;rotate_left
     .skip;refine cf (f2 hh (zAb c4)) ?_;refine xk ?_;cases H3;exact ce hh ⟨_,rfl,kq hh,rfl⟩
     refine ct (f2 hh (zAa c4)) ?_;refine sk ?_;apply ff;apply gj;obtain ⟨g5,H3⟩:=isg H3;apply ff;refine rk [0,1,5,6,39] [] (f3 hh (zag g2) (zag g5)) fun h hh=>?_;rcases isp H3 with ⟨c6,H3⟩|⟨c6,H3⟩;rotate_left
     .skip;refine cf (f2 hh (zAb c6)) ?_;refine sk ?_;refine rk [0,1,5,6] [] hh fun h hh=>?_;exact rd m hh ⟨(fh.wrap (i+1)),H3,kq hh,rfl⟩
     refine ct (f2 hh (zAa c6)) ?_;apply ff;refine rk [4] [] hh fun h hh=>?_;cases H3;obtain rfl:=sinm H2;obtain rfl:=sinm H1;obtain rfl:=sinl H;exact rt hh
    clear hh h;rintro h bs ⟨s_3,rfl,hh,rfl⟩;replace H2:=sinr H2;cases H2;exact ce hh ⟨_,rfl,kq hh,rfl⟩
   refine ct (f2 hh (zAa c3)) ?_;apply ff;refine rk [4] [] hh fun h hh=>?_;cases H2;obtain rfl:=sinm H1;obtain rfl:=sinl H;exact rt hh
  clear hh h;rintro h bs ⟨s_2,rfl,hh,rfl⟩;replace H1:=sinr H1;refine rk [0,1,5] [] hh fun h hh=>?_;exact rd m hh ⟨(fh.wrap (k_+1)),H1,kq hh,rfl⟩
 clear hh h;rintro h bs ⟨s_,rfl,hh,rfl⟩;replace H:=sinr H;apply ff;refine rk [4] [] hh fun h hh=>?_;cases H;exact rt hh
def zda (k:Nat) (n:Net) (r:Rule) (k_:Int):Nat->Int->Option (Bool ⊕ Unit)
 |0,_=>none
 |m+1,i=>(if 0<=k_/\k_<(r.outs.length:Int) then (if i<((gx r.outs k_).length:Int) then (if 0<=i/\i<((gx r.outs k_).length:Int) then ((zhl k ((gx (gx r.outs k_) i).mod)).bind fun em=>(if ((gx (gx r.outs k_) i).link)<(-1) then some (.inl false) else (if (n.links.length:Int)<=((gx (gx r.outs k_) i).link) then some (.inl false) else (if em=true then zda k n r k_ m (fh.wrap (i+1)) else some (.inl false))))) else none) else some (.inr ())) else none)
def zdb (k:Nat) (n:Net) (r:Rule):Nat->Int->Option (Bool ⊕ Unit)
 |0,_=>none
 |m+1,k_=>(if k_<(r.outs.length:Int) then (((((if 0<=k_/\k_<(r.outs.length:Int) then (if ((gx r.outs k_).length:Int)<1 then some true else some (decide (8<((gx r.outs k_).length:Int)))) else none):Option Bool).bind fun s_4=>(if s_4=true then some (.inl false) else ((zda k n r k_ k 0:Option (Bool ⊕ Unit)).bind fun o=>kp (fun r=>some (.inl r)) (fun s_5=>some (.inr ())) o))):Option (Bool ⊕ Unit)).bind fun o2=>kp (fun r=>some (.inl r)) (fun s_3=>zdb k n r m (fh.wrap (k_+1))) o2) else some (.inr ()))
def zjq (k:Nat) (n:Net) (steps:Int) (r:Rule):Option Bool:=((zh9 k r.mat).bind fun bn=>(((if r.prio<1 then some true else (if 65535<r.prio then some true else (if bn=true then (if r.step<(-1) then some true else (if steps<=r.step then some true else some (decide (16<(r.outs.length:Int))))) else some true))):Option Bool).bind fun s_=>(if s_=true then some false else ((zdb k n r k 0:Option (Bool ⊕ Unit)).bind fun o3=>kp (fun r=>some r) (fun s_2=>some true) o3))))
theorem zvr (ax:Axs) (hx:NoAx ax) (k:Nat) (n:Net) (steps:Int) (r:Rule) (v:Bool) (H:zjq k n steps r=some v):Pure Try.prog (EE ax) [] 38 [eNet n,.int .i64 steps,zaj r] (.bool v):=by
 rw [zjq] at H;refine en [.tmp 6] 103 [0,1,2] (hx.no _ (by decide)) (fn38 ax) ?_;intro h hh;apply ff;refine rk [1,3,5] [] hh fun h hh=>?_;obtain ⟨bn,e1,H⟩:=zab H;apply ff;refine rkp [1,3,5,7] [] [.bool bn] hh ?_ ?_
 .exact ⟨gc ((zlr ax hx k r.mat bn e1 ).call _),trivial⟩
 clear hh h;intro h hh;obtain ⟨s_,H1,H⟩:=zab H;repeat apply ff
 refine cu [3,5,43] 2 (fun h bs=>(h 3=.ptr 0 0 3/\h 5=.ptr 1 0 23/\h 43=.bool s_)/\bs=[.cells true 3 [zf0 n.nodes,zf1 n.links,zf2 n.edges],.cells true 23 (fg .i64 r.prio :: (r.mat.mask.l.map (fg .i64)++(r.mat.bits.l.map (fg .i64)++[fg .i64 r.step,za5 r.outs])))]) ?_ ?_
 .skip;rcases isp H1 with ⟨c2,H1⟩|⟨c2,H1⟩;rotate_left
  .skip;rcases isp H1 with ⟨c3,H1⟩|⟨c3,H1⟩;rotate_left
   .skip;rcases isb H1 with ⟨c4,H1⟩|⟨c4,H1⟩;rotate_left
    .skip;refine rk [3,5,43] [] (f3 hh (zAb c2) (f2 (zAb c3) c4)) fun h hh=>?_;cases H1;exact ce hh ⟨kq hh,rfl⟩
    rcases isp H1 with ⟨c5,H1⟩|⟨c5,H1⟩;rotate_left
    .skip;rcases isp H1 with ⟨c6,H1⟩|⟨c6,H1⟩;rotate_left
     .skip;refine rk [3,5,43] [] (f3 hh (zAb c2) (f3 (zAb c3) c4 (f2 (zAb c5) (zAb c6)))) fun h hh=>?_;cases H1;exact ce hh ⟨kq hh,rfl⟩
     refine rk [3,5,43] [] (f3 hh (zAb c2) (f3 (zAb c3) c4 (f2 (zAb c5) (zAa c6)))) fun h hh=>?_;cases H1;exact ce hh ⟨kq hh,rfl⟩
    refine rk [3,5,43] [] (f3 hh (zAb c2) (f3 (zAb c3) c4 (zAa c5))) fun h hh=>?_;cases H1;exact ce hh ⟨kq hh,rfl⟩
   refine rk [3,5,43] [] (f3 hh (zAb c2) (zAa c3)) fun h hh=>?_;cases H1;exact ce hh ⟨kq hh,rfl⟩
  refine rk [3,5,43] [] (f2 hh (zAa c2)) fun h hh=>?_;cases H1;exact ce hh ⟨kq hh,rfl⟩
 clear hh h;rintro h bs ⟨hh,rfl⟩;rcases isb H with ⟨c7,H⟩|⟨c7,H⟩;rotate_left
 .skip;refine cf (f2 hh c7) ?_;refine sk ?_;repeat apply ff
  refine rk [3,5,8] [] (f2 hh c7) fun h hh=>?_;obtain ⟨o3,H1,H⟩:=zab H;refine cu [] 2 (fun h bs=>∃ s_2:Unit,o3=.inr s_2/\(True)/\bs=[.cells true 3 [zf0 n.nodes,zf1 n.links,zf2 n.edges],.cells true 23 (fg .i64 r.prio :: (r.mat.mask.l.map (fg .i64)++(r.mat.bits.l.map (fg .i64)++[fg .i64 r.step,za5 r.outs])))]) ?_ ?_
  .skip;apply gj;refine ji [3,5,8] (fun m h bs=>∃ (k_:Int),zdb k n r m k_=some o3/\(h 3=.ptr 0 0 3/\h 5=.ptr 1 0 23/\h 8=.int .i64 k_)/\bs=[.cells true 3 [zf0 n.nodes,zf1 n.links,zf2 n.edges],.cells true 23 (fg .i64 r.prio :: (r.mat.mask.l.map (fg .i64)++(r.mat.bits.l.map (fg .i64)++[fg .i64 r.step,za5 r.outs])))]) ?_ k _ _ ?_;rotate_left
   .exact ⟨0,H1,kq hh,rfl⟩
   clear hh h H1;rintro m h bs ⟨k_,H1,hh,rfl⟩;rcases m with _|m
   .rw [zdb] at H1;cases H1
   rw [zdb] at H1;repeat apply ff
   refine rk [3,5,8,48] [] (f2 hh c7) fun h hh=>?_;rcases isp H1 with ⟨c8,H1⟩|⟨c8,H1⟩;rotate_left
   .skip;refine cf (f2 hh (zAb c8)) ?_;refine xk ?_;cases H1;exact ce hh ⟨_,rfl,kq hh,rfl⟩
   refine ct (f2 hh (zAa c8)) ?_;refine sk ?_;obtain ⟨o2,H2,H1⟩:=zab H1;apply ff;refine cu [3,5,8] 2 (fun h bs=>∃ s_3:Unit,o2=.inr s_3/\(h 3=.ptr 0 0 3/\h 5=.ptr 1 0 23/\h 8=.int .i64 k_)/\bs=[.cells true 3 [zf0 n.nodes,zf1 n.links,zf2 n.edges],.cells true 23 (fg .i64 r.prio :: (r.mat.mask.l.map (fg .i64)++(r.mat.bits.l.map (fg .i64)++[fg .i64 r.step,za5 r.outs])))]) ?_ ?_
   .skip;apply gj;obtain ⟨s_4,H3,H2⟩:=zab H2;repeat apply ff
    refine cu [3,5,8,66] 2 (fun h bs=>(h 3=.ptr 0 0 3/\h 5=.ptr 1 0 23/\h 8=.int .i64 k_/\h 66=.bool s_4)/\bs=[.cells true 3 [zf0 n.nodes,zf1 n.links,zf2 n.edges],.cells true 23 (fg .i64 r.prio :: (r.mat.mask.l.map (fg .i64)++(r.mat.bits.l.map (fg .i64)++[fg .i64 r.step,za5 r.outs])))]) ?_ ?_
    .skip;obtain ⟨g9,H3⟩:=isg H3;rcases isp H3 with ⟨c10,H3⟩|⟨c10,H3⟩;rotate_left
     .skip;refine rk [3,5,8,66] [] (f3 hh (zAb c10) (f2 c7 (zag g9))) fun h hh=>?_;cases H3;exact ce hh ⟨kq hh,rfl⟩
     refine rk [3,5,8,66] [] (f3 hh (zAa c10) (f2 c7 (zag g9))) fun h hh=>?_;cases H3;exact ce hh ⟨kq hh,rfl⟩
    clear hh h;rintro h bs ⟨hh,rfl⟩;rcases isb H2 with ⟨c11,H2⟩|⟨c11,H2⟩;rotate_left
    .skip;refine cf (f2 hh c11) ?_;refine sk ?_;apply ff;refine rk [3,5,8,9] [] (f3 hh c7 c11) fun h hh=>?_;obtain ⟨o,H3,H2⟩:=zab H2;refine cu [3,5,8] 2 (fun h bs=>∃ s_5:Unit,o=.inr s_5/\(h 3=.ptr 0 0 3/\h 5=.ptr 1 0 23/\h 8=.int .i64 k_)/\bs=[.cells true 3 [zf0 n.nodes,zf1 n.links,zf2 n.edges],.cells true 23 (fg .i64 r.prio :: (r.mat.mask.l.map (fg .i64)++(r.mat.bits.l.map (fg .i64)++[fg .i64 r.step,za5 r.outs])))]) ?_ ?_
     .skip;apply gj;refine ji [3,5,8,9] (fun m h bs=>∃ (i:Int),zda k n r k_ m i=some o/\(h 3=.ptr 0 0 3/\h 5=.ptr 1 0 23/\h 8=.int .i64 k_/\h 9=.int .i64 i)/\bs=[.cells true 3 [zf0 n.nodes,zf1 n.links,zf2 n.edges],.cells true 23 (fg .i64 r.prio :: (r.mat.mask.l.map (fg .i64)++(r.mat.bits.l.map (fg .i64)++[fg .i64 r.step,za5 r.outs])))]) ?_ k _ _ ?_;rotate_left
      .exact ⟨0,H3,kq hh,rfl⟩
      clear hh h H3;rintro m h bs ⟨i,H3,hh,rfl⟩;rcases m with _|m
      .rw [zda] at H3;cases H3
      rw [zda] at H3;obtain ⟨g12,H3⟩:=isg H3;repeat apply ff
      refine rk [3,5,8,9,74] [] (f3 hh c7 (f2 c11 (zag g12))) fun h hh=>?_;rcases isp H3 with ⟨c13,H3⟩|⟨c13,H3⟩;rotate_left
      .skip;refine cf (f2 hh (zAb c13)) ?_;refine xk ?_;cases H3;exact ce hh ⟨_,rfl,kq hh,rfl⟩
      refine ct (f2 hh (zAa c13)) ?_;refine sk ?_;apply ff;apply gj;obtain ⟨g14,H3⟩:=isg H3;apply ff;refine rk [3,5,8,9,10] [] (f3 hh c7 (f3 c11 (zag g12) (zag g14))) fun h hh=>?_;obtain ⟨em,e15,H3⟩:=zab H3;apply ff;refine rkp [3,5,8,9,10,11] [] [.bool em] (f3 hh c7 c11) ?_ ?_
      .exact ⟨gc (ja (zr9 ax hx k ((gx (gx r.outs k_) i).mod) em e15 ) (by first|rfl|simp only [c7,c11])),trivial⟩
      clear hh h;intro h hh;rcases isp H3 with ⟨c16,H3⟩|⟨c16,H3⟩;rotate_left
      .skip;rcases isp H3 with ⟨c17,H3⟩|⟨c17,H3⟩;rotate_left
       .skip;apply ff;refine rk [3,5,8,9,102] [] (f3 hh (zAb c16) (f3 (zAb c17) c7 c11)) fun h hh=>?_;rcases isb H3 with ⟨c18,H3⟩|⟨c18,H3⟩;rotate_left
        .skip;refine ct (f2 hh c18) ?_;apply ff;refine rk [6] [] (f3 hh c7 (f2 c11 c18)) fun h hh=>?_;cases H3;obtain rfl:=sinm H2;obtain rfl:=sinm H1;obtain rfl:=sinl H;exact rt hh
        refine cf (f2 hh c18) ?_;refine sk ?_;refine rk [3,5,8,9] [] (f3 hh c7 (f2 c11 c18)) fun h hh=>?_;exact rd m hh ⟨(fh.wrap (i+1)),H3,kq hh,rfl⟩
       apply ff;refine rk [3,5,8,9,102] [] (f3 hh (zAb c16) (f3 (zAa c17) c7 c11)) fun h hh=>?_;refine ct hh ?_;apply ff;refine rk [6] [] (f3 hh c7 c11) fun h hh=>?_;cases H3;obtain rfl:=sinm H2;obtain rfl:=sinm H1;obtain rfl:=sinl H;exact rt hh
      apply ff;refine rk [3,5,8,9,102] [] (f3 hh (zAa c16) (f2 c7 c11)) fun h hh=>?_;refine ct hh ?_;apply ff;refine rk [6] [] (f3 hh c7 c11) fun h hh=>?_;cases H3;obtain rfl:=sinm H2;obtain rfl:=sinm H1;obtain rfl:=sinl H;exact rt hh
     clear hh h;rintro h bs ⟨s_5,rfl,hh,rfl⟩;replace H2:=sinr H2;cases H2;exact ce hh ⟨_,rfl,kq hh,rfl⟩
    refine ct (f2 hh c11) ?_;apply ff;refine rk [6] [] (f3 hh c7 c11) fun h hh=>?_;cases H2;obtain rfl:=sinm H1;obtain rfl:=sinl H;exact rt hh
   clear hh h;rintro h bs ⟨s_3,rfl,hh,rfl⟩;replace H1:=sinr H1;refine rk [3,5,8] [] (f2 hh c7) fun h hh=>?_;exact rd m hh ⟨(fh.wrap (k_+1)),H1,kq hh,rfl⟩
  clear hh h;rintro h bs ⟨s_2,rfl,hh,rfl⟩;replace H:=sinr H;apply ff;refine rk [6] [] (f2 hh c7) fun h hh=>?_;cases H;exact rt hh
 refine ct (f2 hh c7) ?_;apply ff;refine rk [6] [] (f2 hh c7) fun h hh=>?_;cases H;exact rt hh
def zcu (k:Nat) (n:Net) (steps:Int) (t:List Rule):Nat->Int->Option ((Int×Int) ⊕ Unit)
 |0,_=>none
 |m+1,k_=>(if k_<(t.length:Int) then (if 0<=k_/\k_<(t.length:Int) then ((zjq k n steps (gx t k_)).bind fun eo=>(if eo=true then (if 0<k_ then (if (0:Int)<=(fh.wrap (k_ - 1))/\(fh.wrap (k_ - 1))<(t.length:Int) then (if ((gx t (fh.wrap (k_ - 1))).prio)<=((gx t k_).prio) then some (.inl (k_,1)) else zcu k n steps t m (fh.wrap (k_+1))) else none) else zcu k n steps t m (fh.wrap (k_+1))) else some (.inl (k_,1)))) else none) else some (.inr ()))
def zk5 (k:Nat) (n:Net) (steps:Int) (t:List Rule):Option (Int×Int):=(((if steps<0 then some true else some (decide (1000<steps))):Option Bool).bind fun s_=>(if s_=true then some (0,1) else (if 4000<(t.length:Int) then some (0,2) else ((zcu k n steps t k 0:Option ((Int×Int) ⊕ Unit)).bind fun o=>kp (fun r=>some r) (fun s_2=>some (0,0)) o))))
theorem zy4 (ax:Axs) (hx:NoAx ax) (k:Nat) (n:Net) (steps:Int) (t:List Rule) (v:Int×Int) (H:zk5 k n steps t=some v):Pure Try.prog (EE ax) [] 15 [eNet n,.int .i64 steps,zad t] (tupT [.int .i64 v.1,.int .i64 v.2]):=by
 rw [zk5] at H;refine enN [.tmp 6,.tmp 7] 53 [0,1,2] (hx.no _ (by decide)) (fn15 ax) ?_;intro h hh;apply ff;refine rk [1,2,3] [] hh fun h hh=>?_;obtain ⟨s_,H1,H⟩:=zab H;repeat apply ff
 refine cu [1,2,3,15] 1 (fun h bs=>(h 1=.int .i64 steps/\h 2=zad t/\h 3=.ptr 0 0 3/\h 15=.bool s_)/\bs=[.cells true 3 [zf0 n.nodes,zf1 n.links,zf2 n.edges]]) ?_ ?_
 .skip;rcases isp H1 with ⟨c1,H1⟩|⟨c1,H1⟩;rotate_left
  .skip;refine rk [1,2,3,15] [] (f2 hh (zAb c1)) fun h hh=>?_;cases H1;exact ce hh ⟨kq hh,rfl⟩
  refine rk [1,2,3,15] [] (f2 hh (zAa c1)) fun h hh=>?_;cases H1;exact ce hh ⟨kq hh,rfl⟩
 clear hh h;rintro h bs ⟨hh,rfl⟩;rcases isb H with ⟨c2,H⟩|⟨c2,H⟩;rotate_left
 .skip;refine cf (f2 hh c2) ?_;refine sk ?_;repeat apply ff
  refine rk [1,2,3,18] [] (f2 hh c2) fun h hh=>?_;rcases isp H with ⟨c3,H⟩|⟨c3,H⟩;rotate_left
  .skip;refine cf (f2 hh (zAb c3)) ?_;refine sk ?_;repeat apply ff
   refine rk [1,2,3,8] [] (f2 hh c2) fun h hh=>?_;obtain ⟨o,H1,H⟩:=zab H;refine cu [] 1 (fun h bs=>∃ s_2:Unit,o=.inr s_2/\(True)/\bs=[.cells true 3 [zf0 n.nodes,zf1 n.links,zf2 n.edges]]) ?_ ?_
   .skip;apply gj;refine ji [1,2,3,8] (fun m h bs=>∃ (k_:Int),zcu k n steps t m k_=some o/\(h 1=.int .i64 steps/\h 2=zad t/\h 3=.ptr 0 0 3/\h 8=.int .i64 k_)/\bs=[.cells true 3 [zf0 n.nodes,zf1 n.links,zf2 n.edges]]) ?_ k _ _ ?_;rotate_left
    .exact ⟨0,H1,kq hh,rfl⟩
    clear hh h H1;rintro m h bs ⟨k_,H1,hh,rfl⟩;rcases m with _|m
    .rw [zcu] at H1;cases H1
    rw [zcu] at H1;repeat apply ff
    refine rk [1,2,3,8,22] [] (f2 hh c2) fun h hh=>?_;rcases isp H1 with ⟨c4,H1⟩|⟨c4,H1⟩;rotate_left
    .skip;refine cf (f2 hh (zAb c4)) ?_;refine xk ?_;cases H1;exact ce hh ⟨_,rfl,kq hh,rfl⟩
    refine ct (f2 hh (zAa c4)) ?_;refine sk ?_;apply ff;apply gj;obtain ⟨g5,H1⟩:=isg H1;obtain ⟨eo,e6,H1⟩:=zab H1;apply ff;refine dk 6 [1,2,3,8,9] [] [] [(.bool eo,stL [.cells true 3 [zf0 n.nodes,zf1 n.links,zf2 n.edges]])] (f3 hh c2 (zag g5)) trivial ?_ ?_
    .exact ⟨gc (ja (zvr ax hx k n steps (gx t k_) eo e6 ) (by first|rfl|simp only [c2])),trivial⟩
    clear hh h;intro h hh;rcases isb H1 with ⟨c7,H1⟩|⟨c7,H1⟩;rotate_left
    .skip;apply ff;refine dk 17 [1,2,3,8,51] [] [] [] (f3 hh c7 c2) trivial trivial fun h hh=>?_;refine ct hh ?_;apply ff;refine rk [6,7] [] (f3 hh c2 c7) fun h hh=>?_;cases H1;obtain rfl:=sinl H;exact rt hh
    rcases isp H1 with ⟨c8,H1⟩|⟨c8,H1⟩;rotate_left
    .skip;apply ff;refine dk 17 [1,2,3,8,51] [] [] [] (f3 hh c7 (f2 (zAb c8) c2)) trivial trivial fun h hh=>?_;refine cf hh ?_;refine sk ?_;refine rk [1,2,3,8] [] (f3 hh c2 c7) fun h hh=>?_;exact rd m hh ⟨(fh.wrap (k_+1)),H1,kq hh,rfl⟩
    obtain ⟨g9,H1⟩:=isg H1;apply ff;refine dk 17 [1,2,3,8,51] [] [] [] (f3 hh c7 (f3 (zAa c8) c2 (f2 (zag g5) (zag g9)))) trivial trivial fun h hh=>?_;rcases isp H1 with ⟨c10,H1⟩|⟨c10,H1⟩;rotate_left
    .skip;refine cf (f2 hh (zAb c10)) ?_;refine sk ?_;refine rk [1,2,3,8] [] (f3 hh c2 c7) fun h hh=>?_;exact rd m hh ⟨(fh.wrap (k_+1)),H1,kq hh,rfl⟩
    refine ct (f2 hh (zAa c10)) ?_;apply ff;refine rk [6,7] [] (f3 hh c2 c7) fun h hh=>?_;cases H1;obtain rfl:=sinl H;exact rt hh
   clear hh h;rintro h bs ⟨s_2,rfl,hh,rfl⟩;replace H:=sinr H;apply ff;refine rk [6,7] [] (f2 hh c2) fun h hh=>?_;cases H;exact rt hh
  refine ct (f2 hh (zAa c3)) ?_;apply ff;refine rk [6,7] [] (f2 hh c2) fun h hh=>?_;cases H;exact rt hh
 refine ct (f2 hh c2) ?_;apply ff;refine rk [6,7] [] (f2 hh c2) fun h hh=>?_;cases H;exact rt hh
theorem gxA {n:Nat} (a:Ar n) {i:Nat} (h:i<n):gx a.l (i:Int)=a.l[i]'(by rw [a.h];exact h):=zdq (by rw [a.h];exact h)
theorem yow {n:Nat} (a:Ar n) (q:Int->Bool):((kj n).all fun j=>q (gx a.l (j:Int)))=a.l.all q:=by
  rw [ks,h9,zvg];constructor
  . intro h j hj;have:=h j (ky.2 (by rw [a.h] at hj;exact hj))
    rwa [zdq hj] at this
  . intro h j hj;have hj':j<a.l.length:=by rw [a.h];exact ky.1 hj
    rw [zdq hj'];exact h j hj'
theorem zx2 {α:Type} [DecidableEq α] (a b:List α) (h:a.length=b.length):((kj a.length).all fun j=>decide (a[j]?=b[j]?))=decide (a=b):=by
  rw [ks,h9,decide_eq_true_eq];constructor
  . intro hh;apply List.ext_getElem?;intro i;by_cases hi:i<a.length
    . have:=hh i (ky.2 hi);simpa using this
    . rw [jv (by omega),jv (by omega)]
  . rintro rfl j _;simp
theorem lt10 {a:Nat} (h:a<10):(a:Int)<10:=by omega
theorem zan {a b:Nat} (h:a<b):(a:Int)<(b:Int):=by omega
theorem zo6 {k:Nat} (a b:List Rule) (f:Rule->Rule->Option Bool) (hf:∀ x,x∈a->∀ y,y∈b->f x y=some (decide (x=y))) (hl:a.length<big) (hk:a.length<k):zch k a b f=some (decide (a=b)):=by
  unfold zch;by_cases hlen:a.length=b.length
  . rw [zAd (by omega),zhs (L:=zay k a b f) a.length false (fun j=>decide (a[j]?=b[j]?)) hl (fun m j h=>by
      have h2:j<b.length:=by omega
      rw [zay,zAc (zan h),zAc ⟨by omega,zan h⟩,zAc ⟨by omega,zan h2⟩,zdq h,zdq h2];rw [hf _ (jo h) _ (jo h2),fe,fj h,fj h2]
      simp only [fd]) (fun m=>by rw [zay,zAd (by omega)]) hk,zx2 a b hlen,fe]
    cases decide (a=b)<;>rfl
  . rw [zAc (by omega)];congr 1;exact (zAb fun h=>hlen (by rw [h])).symm
theorem zo7 {k:Nat} (a b:List (List Alt)) (f:(List Alt)->(List Alt)->Option Bool) (hf:∀ x,x∈a->∀ y,y∈b->f x y=some (decide (x=y))) (hl:a.length<big) (hk:a.length<k):zci k a b f=some (decide (a=b)):=by
  unfold zci;by_cases hlen:a.length=b.length
  . rw [zAd (by omega),zhs (L:=zaz k a b f) a.length false (fun j=>decide (a[j]?=b[j]?)) hl (fun m j h=>by
      have h2:j<b.length:=by omega
      rw [zaz,zAc (zan h),zAc ⟨by omega,zan h⟩,zAc ⟨by omega,zan h2⟩,zdq h,zdq h2];rw [hf _ (jo h) _ (jo h2),fe,fj h,fj h2]
      simp only [fd]) (fun m=>by rw [zaz,zAd (by omega)]) hk,zx2 a b hlen,fe]
    cases decide (a=b)<;>rfl
  . rw [zAc (by omega)];congr 1;exact (zAb fun h=>hlen (by rw [h])).symm
theorem zv4 {k:Nat} (a b:List Alt) (hl:a.length<big) (hk:a.length<k):zeg k a b=some (decide (a=b)):=by
  unfold zeg;by_cases hlen:a.length=b.length
  . rw [zAd (by omega),zhs (L:=zbb k a b) a.length false (fun j=>decide (a[j]?=b[j]?)) hl (fun m j h=>by
      have h2:j<b.length:=by omega
      rw [zbb,zAc (zan h),zAc ⟨by omega,zan h⟩,zAc ⟨by omega,zan h2⟩,zdq h,zdq h2,fj h,fj h2]
      simp only [fd,decide_eq_true_eq]) (fun m=>by rw [zbb,zAd (by omega)]) hk,zx2 a b hlen,fe]
    cases decide (a=b)<;>rfl
  . rw [zAc (by omega)];congr 1;exact (zAb fun h=>hlen (by rw [h])).symm
/-! patterns -/
def zw0 (x:Int):Bool:=decide (0<=x/\x<=65535)
def zac (h:Ar 10):Bool:=h.l.all zw0
def zyr (p:Pat):Bool:=(kj 10).all fun i=>decide (iAnd .i64 (gx p.bits.l (i:Int)) (gx p.mask.l (i:Int))=gx p.bits.l (i:Int))
def zaf (p:Pat):Bool:=zac p.mask && (zac p.bits && zyr p)
theorem z9d {x:Int} (h:zw0 x=true):∃ n:Nat,x=(n:Int)/\n<65536:=by
  have:=zAe h;exact ⟨x.toNat,by omega,by omega⟩
theorem zzc {h:Ar 10} (hr:zac h=true) {i:Nat} (hi:i<10):∃ n:Nat,gx h.l (i:Int)=(n:Int)/\n<65536:=by
  rw [gxA h hi];exact z9d (h9.1 hr _ (jo _))
theorem zpq {k:Nat} (h:Ar 10) (hk:10<k):zfh k h=some (zac h):=by
  unfold zfh
  rw [zhs (L:=zbz k h) 10 false (fun i=>zw0 (gx h.l (i:Int))) (by decide) (fun m j hj=>by
    rw [zbz,zAc (lt10 hj),zAc ⟨by omega,lt10 hj⟩];unfold zw0;by_cases c1:gx h.l (j:Int)<0
    . rw [zAc c1,zAd (by rw [decide_eq_true_eq];omega)]
    . rw [zAd c1];by_cases c2:65535<gx h.l (j:Int)
      . rw [zAc c2,zAd (by rw [decide_eq_true_eq];omega)]
      . rw [zAd c2,zAc (by rw [decide_eq_true_eq];omega)]) (fun m=>by rw [zbz];exact zAd (by decide)) hk,fe,yow]
  unfold zac;cases h.l.all zw0<;>rfl
theorem z9h {k:Nat} (p:Pat) (hk:10<k):zjr k p.bits p.mask=some (zyr p):=by
  unfold zjr zyr
  rw [zhs (L:=zdc k p.bits p.mask) 10 false (fun i=>decide (iAnd .i64 (gx p.bits.l (i:Int)) (gx p.mask.l (i:Int))=gx p.bits.l (i:Int))) (by decide) (fun m j hj=>by
    rw [zdc,zAc (lt10 hj),zAc ⟨by omega,lt10 hj⟩];by_cases c:iAnd .i64 (gx p.bits.l (j:Int)) (gx p.mask.l (j:Int))=gx p.bits.l (j:Int)
    . rw [zAd (fun h=>h c),zAc (zAa c)]
    . rw [zAc c,zAd (by rw [decide_eq_true_eq];exact c)]) (fun m=>by rw [zdc];exact zAd (by decide)) hk,fe]
  cases (kj 10).all _<;>rfl
theorem ztz {k:Nat} (p:Pat) (hk:10<k):zh9 k p=some (zaf p):=by
  unfold zh9 zaf
  rw [zpq _ hk,zpq _ hk,fe,fe,z9h p hk];cases zac p.mask<;>cases zac p.bits<;>rfl
theorem z1h {k:Nat} (p:Pat) (hk:10<k):zhl k p=some (zaf p):=by
  unfold zhl;rw [ztz _ hk];rfl
/-! rules and tables -/
def zit (r:Rule):Prop:=r.outs.length<big/\∀ l,l∈r.outs->l.length<big
def zlh (t:List Rule):Prop:=t.length<big/\∀ r,r∈t->zit r
theorem zs9 {k:Nat} (a b:Rule) (ha:zit a) (hk:big<=k):zg9 k a b=some (decide (a.step=b.step/\a.outs=b.outs)):=by
  unfold zg9;rw [zo7 a.outs b.outs _ (fun x hx y hy=>by unfold zgr;rw [zv4 x y (ha.2 x hx) (gq (ha.2 x hx) hk)];rfl) ha.1 (gq ha.1 hk)];by_cases c:a.step=b.step
  . rw [zAc c];simp [c]
  . rw [zAd c];simp [c]
theorem zoh {k:Nat} (a b:Rule) (ha:zit a) (hk:big<=k):zdi k a b=some (decide (a=b)):=by
  unfold zdi;rw [zs9 a b ha hk];obtain ⟨p,m,s,o⟩:=a;obtain ⟨p2,m2,s2,o2⟩:=b;simp only [Rule.mk.injEq];by_cases c1:p=p2
  . rw [zAc c1];by_cases c2:m=m2
    . rw [zAc c2];simp [c1,c2]
    . rw [zAd c2];simp [c2]
  . rw [zAd c1];simp [c1]
theorem z84 {k:Nat} (t u:List Rule) (ht:zlh t) (hk:big<=k):zjp k t u=some (decide (t=u)):=by
  unfold zjp;rw [zo6 t u _ (fun x hx y hy=>zoh x y (ht.2 x hx) hk) ht.1 (gq ht.1 hk)];rfl
theorem z1e {k:Nat} (a b:Rule) (ha:zit a) (hk:big<=k):zhi k a b=some (decide (a.outs=b.outs)):=by
  unfold zhi;by_cases hlen:a.outs.length=b.outs.length
  . rw [zAd (by omega),zhs (L:=zcc k a b) a.outs.length false (fun j=>decide (a.outs[j]?=b.outs[j]?)) ha.1 (fun m j h=>by
      have h2:j<b.outs.length:=by omega
      rw [zcc,zAc (zan h),zAc ⟨by omega,zan h⟩,zAc ⟨by omega,zan h2⟩,zdq h,zdq h2];have hx:=ha.2 _ (jo h);rw [fj h,fj h2];by_cases hl2:a.outs[j].length=b.outs[j].length
      . rw [zAd (by omega),zhs (L:=zcb k a b (j:Int)) a.outs[j].length false (fun i=>decide (a.outs[j][i]?=b.outs[j][i]?)) hx (fun m i hi=>by
          have hi2:i<b.outs[j].length:=by omega
          rw [zcb,zdq h,zdq h2,zAc (zan hi),zAc ⟨by omega,zan hi⟩,zAc ⟨by omega,zan hi2⟩,zdq hi,zdq hi2,fj hi,fj hi2]
          simp only [fd,decide_eq_true_eq]) (fun m=>by rw [zcb,zdq h,zAd (by omega)]) (gq hx hk),zx2 _ _ hl2,fe]
        by_cases c:a.outs[j]=b.outs[j]
        . rw [zAa c,zAa (congrArg some c)];rfl
        . rw [zAb c,zAb (fun h=>c (Option.some.inj h))];rfl
      . rw [zAc (by omega),zAb (fun h=>hl2 (by rw [Option.some.inj h]))];rfl) (fun m=>by rw [zcc,zAd (by omega)]) (gq ha.1 hk),zx2 _ _ hlen,fe]
    cases decide (a.outs=b.outs)<;>rfl
  . rw [zAc (by omega)];congr 1;exact (zAb fun h=>hlen (by rw [h])).symm
theorem z1g {k:Nat} (a b:Rule) (ha:zit a) (hk:big<=k):zji k a b=some (decide (a.step=b.step/\a.outs=b.outs)):=by
  unfold zji;rw [z1e a b ha hk];by_cases c:a.step=b.step
  . rw [zAc c];simp [c]
  . rw [zAd c];simp [c]
theorem zrs {k:Nat} (a b:Rule) (ha:zit a) (hk:big<=k):zgd k a b=some (decide (a=b)):=by
  unfold zgd;rw [z1g a b ha hk];obtain ⟨p,m,s,o⟩:=a;obtain ⟨p2,m2,s2,o2⟩:=b;simp only [Rule.mk.injEq];by_cases c1:p=p2
  . rw [zAc c1];by_cases c2:m=m2
    . rw [zAc c2];simp [c1,c2]
    . rw [zAd c2];simp [c2]
  . rw [zAd c1];simp [c1]
theorem yf9 {k:Nat} (t u:List Rule) (ht:zlh t) (hk:big<=k):zmt k t u=some (decide (t=u)):=by
  unfold zmt;by_cases hlen:t.length=u.length
  . rw [zAd (by omega),zhs (L:=zen k t u) t.length false (fun j=>decide (t[j]?=u[j]?)) ht.1 (fun m j h=>by
      have h2:j<u.length:=by omega
      rw [zen,zAc (zan h),zAc ⟨by omega,zan h⟩,zAc ⟨by omega,zan h2⟩,zdq h,zdq h2,zrs _ _ (ht.2 _ (jo h)) hk,fe,fj h,fj h2]
      simp only [fd]) (fun m=>by rw [zen,zAd (by omega)]) (gq ht.1 hk),zx2 t u hlen,fe]
    cases decide (t=u)<;>rfl
  . rw [zAc (by omega)];congr 1;exact (zAb fun h=>hlen (by rw [h])).symm
def fAlt (n:Net) (a:Alt):Bool:=decide (-1<=a.link/\a.link<n.links.length) && zaf a.mod
def fOut (n:Net) (l:List Alt):Bool:=decide (1<=l.length/\l.length<=8) && l.all (fAlt n)
def formed (n:Net) (steps:Int) (r:Rule):Bool:=decide (1<=r.prio/\r.prio<=65535) && (zaf r.mat && (decide (-1<=r.step/\r.step<steps/\r.outs.length<=16) && r.outs.all (fOut n)))
theorem z9g {k:Nat} (n:Net) (steps:Int) (r:Rule) (hr:zit r) (hk:big<=k):zjq k n steps r=some (formed n steps r):=by
  have hk10:10<k:=gq (by decide) hk;unfold zjq formed;rw [ztz _ hk10,fe]
  have hloop:zdb k n r k 0=some (if r.outs.all (fOut n)=true then .inr () else .inl false):=by
    refine zpy r.outs false (fOut n) hr.1 (fun m j h=>?_) (fun m=>by rw [zdb,zAd (by omega)]) (gq hr.1 hk);have hx:=hr.2 _ (jo h);rw [zdb,zAc (zan h),zAc ⟨by omega,zan h⟩,zdq h];unfold fOut;by_cases c1:(r.outs[j].length:Int)<1
    . rw [zAc c1,zAb (by omega)];rfl
    . rw [zAd c1,fe];by_cases c2:8<(r.outs[j].length:Int)
      . rw [zAa c2,zAb (by omega)];rfl
      . rw [zAb c2,zAa (by omega)];simp only [qr,if_false,jx]
        rw [zpy (L:=zda k n r (j:Int)) r.outs[j] false (fAlt n) hx (fun m i hi=>by
          rw [zda,zAc ⟨by omega,zan h⟩,zdq h,zAc (zan hi),zAc ⟨by omega,zan hi⟩,zdq hi,z1h _ hk10,fe];unfold fAlt;by_cases d1:r.outs[j][i].link < -1
          . rw [zAc d1,zAb (by omega)];rfl
          . rw [zAd d1];by_cases d2:(n.links.length:Int)<=r.outs[j][i].link
            . rw [zAc d2,zAb (by omega)];rfl
            . rw [zAd d2,zAa (by omega)];rfl) (fun m=>by rw [zda,zAc ⟨by omega,zan h⟩,zdq h,zAd (by omega)]) (gq hx hk),fe]
        cases r.outs[j].all (fAlt n)<;>rfl
  rw [hloop];by_cases c1:r.prio<1
  . rw [zAc c1,zAb (by omega)];rfl
  . rw [zAd c1];by_cases c2:65535<r.prio
    . rw [zAc c2,zAb (by omega)];rfl
    . rw [zAd c2,zAa (show 1<=r.prio/\r.prio<=65535 by omega)]
      cases zaf r.mat with
      |false=>rfl
      |true =>
        simp only [if_true,jx];by_cases c3:r.step < -1
        . rw [zAc c3,zAb (by omega)];rfl
        . rw [zAd c3];by_cases c4:steps<=r.step
          . rw [zAc c4,zAb (by omega)];rfl
          . rw [zAd c4,fe];by_cases c5:16<(r.outs.length:Int)
            . rw [zAa c5,zAb (by omega)];rfl
            . rw [zAb c5,zAa (by omega)];simp only [qr,if_false,jx];cases r.outs.all (fOut n)<;>rfl
theorem zcw {α:Type} [Inhabited α] {l:List α} {i:Nat} (h:i<l.length):l.getD i default∈l:=by
  rw [fo,fj h];exact jo h
def znb (n:Net) (k:Int):Prop:=0<=k/\k<(n.nodes.length:Int)
instance (n:Net) (k:Int):Decidable (znb n k):=by unfold znb;infer_instance
structure RightNet (n:Net):Prop where
  nodes:n.nodes.length<=10
  links:n.links.length<=24
  frm:∀ k,k<n.links.length->0<=(n.links.getD k default).frm/\(n.links.getD k default).frm<(n.nodes.length:Int)
  to:∀ k,k<n.links.length->0<=(n.links.getD k default).to/\(n.links.getD k default).to<(n.nodes.length:Int)
  apart:∀ k,k<n.links.length->(n.links.getD k default).frm≠(n.links.getD k default).to
  cap:∀ k,k<n.links.length->0<=(n.links.getD k default).cap/\(n.links.getD k default).cap<=1048576
theorem ym2 (k:Nat) (s:ByteArray) (hs:s.size<9223372036854775808):∀ (m i:Nat),i<=s.size->s.size - i<m->∃ r,zeo k s m (i:Int)=some r:=by
  intro m
  induction m with
  |zero=>intro i h1 h2;omega
  |succ m ih =>
    intro i h1 h2;rw [zeo];by_cases c:(i:Int)<(s.size:Int)
    . obtain ⟨r,hr⟩:=ih (i+1) (by omega) (by omega);have g:(0:Int)<=(i:Int)/\(i:Int)<(s.size:Int):=⟨by omega,c⟩
      have A1:∃ b,(if (0:Int)<=(i:Int)/\(i:Int)<(s.size:Int) then (if 97<=((bx s (i:Int)).toNat:Int) then some (decide (((bx s (i:Int)).toNat:Int)<=122)) else some false) else none)=some b:=by
        rw [zAc g];split<;>exact ⟨_,rfl⟩
      have A2:∃ b,(if (0:Int)<=(i:Int)/\(i:Int)<(s.size:Int) then (if 48<=((bx s (i:Int)).toNat:Int) then (if ((bx s (i:Int)).toNat:Int)<=57 then some true else some (decide (((bx s (i:Int)).toNat:Int)=95))) else some (decide (((bx s (i:Int)).toNat:Int)=95))) else none)=some b:=by
        rw [zAc g];split
        . split<;>exact ⟨_,rfl⟩
        . exact ⟨_,rfl⟩
      obtain ⟨b1,h1⟩:=A1;obtain ⟨b2,h2⟩:=A2;rw [zAc c,h1,h2,za4 i (by omega),hr];simp only [fe]
      (repeat' split)<;>exact ⟨_,rfl⟩
    . rw [zAd c];exact ⟨_,rfl⟩
theorem yhw {k:Nat} (hk:9223372036854775808<=k) (s:ByteArray) (hs:s.size<9223372036854775808):∃ r,zmu k s=some r:=by
  obtain ⟨r,h⟩:=ym2 k s hs k 0 (by omega) (by omega);rw [show ((0:Nat):Int)=0 from rfl] at h;unfold zmu;rw [h,fe]
  cases r with
  |inl b=>exact ⟨_,rfl⟩
  |inr u=>simp only [Sum.elim_inr];split<;>exact ⟨_,rfl⟩
theorem ygp (k:Nat) (l:List ByteArray) (e:Nat) (he:e<l.length) (hl:l.length<9223372036854775808):∀ (m i:Nat),i<=e->e - i<m->∃ r,zez k l (e:Int) m (i:Int)=some r:=by
  intro m
  induction m with
  |zero=>intro i h1 h2;omega
  |succ m ih =>
    intro i h1 h2;rw [zez];by_cases c:(i:Int)<(e:Int)
    . obtain ⟨r,hr⟩:=ih (i+1) (by omega) (by omega);rw [zAc c,zAc ⟨by omega,by omega⟩,za4 i (by omega),hr];split<;>exact ⟨_,rfl⟩
    . rw [zAd c];exact ⟨_,rfl⟩
theorem ygq {k:Nat} (hk:9223372036854775808<=k) (l:List ByteArray) (hl:l.length<9223372036854775808) (hs:∀ s,s∈l->s.size<9223372036854775808):∀ (m i:Nat),i<=l.length->l.length - i<m->∃ r,ze0 k l m (i:Int)=some r:=by
  intro m
  induction m with
  |zero=>intro i h1 h2;omega
  |succ m ih =>
    intro i h1 h2;rw [ze0];by_cases c:(i:Int)<(l.length:Int)
    . have hi:i<l.length:=by omega
      obtain ⟨r,hr⟩:=ih (i+1) (by omega) (by omega);obtain ⟨b,hb⟩:=yhw hk (l.getD i default) (hs _ (zcw hi));obtain ⟨r1,h1⟩:=ygp k l i hi hl k 0 (by omega) (by omega);rw [show ((0:Nat):Int)=0 from rfl] at h1;rw [zAc c,zAc ⟨by omega,c⟩,za4 i (by omega),zi8 l i,hb,h1,hr]
      cases b with
      |false=>exact ⟨_,rfl⟩
      |true=>cases r1<;>exact ⟨_,rfl⟩
    . rw [zAd c];exact ⟨_,rfl⟩
theorem z11 {k:Nat} (hk:9223372036854775808<=k) (l:List ByteArray) (hl:l.length<9223372036854775808) (hs:∀ s,s∈l->s.size<9223372036854775808):∃ r,zjj k l=some r:=by
  obtain ⟨r,h⟩:=ygq hk l hl hs k 0 (by omega) (by omega);rw [show ((0:Nat):Int)=0 from rfl] at h;unfold zjj;rw [h,fe];cases r<;>exact ⟨_,rfl⟩
theorem yhv (k:Nat) (n:Net) (hn:n.nodes.length<=1000) (hs:∀ x,x∈n.nodes->x.name.size<9223372036854775808):∀ (m i:Nat) (l:List ByteArray),i<=n.nodes.length->n.nodes.length - i<m->l.length=i->(∀ s,s∈l->s.size<9223372036854775808) ->
    ∃ l',ze2 k n m (i:Int) l i=some (l',l'.length)/\l'.length=n.nodes.length/\∀ s,s∈l'->s.size<9223372036854775808:=by
  intro m
  induction m with
  |zero=>intro i l h1 h2;omega
  |succ m ih =>
    intro i l h1 h2 h3 h4;rw [ze2];by_cases c:(i:Int)<(n.nodes.length:Int)
    . have hi:i<n.nodes.length:=by omega
      rw [zAc c,zAc ⟨by omega,c⟩,zAc (by omega),za4 i (by omega),zi8 n.nodes i];refine ih (i+1) _ (by omega) (by omega) (by simp [h3]) fun s hm=>?_;rcases im.1 hm with q|q
      . exact h4 s q
      . simp only [gt] at q;subst q;exact hs _ (zcw hi)
    . rw [zAd c];exact ⟨l,by rw [h3],by omega,h4⟩
theorem yhu (k:Nat) (n:Net) (hn:n.edges.length<=1000) (hs:∀ x,x∈n.edges->x.name.size<9223372036854775808):∀ (m i:Nat) (l:List ByteArray),i<=n.edges.length->n.edges.length - i<m->l.length=i->(∀ s,s∈l->s.size<9223372036854775808) ->
    ∃ l',ze1 k n m (i:Int) l i=some (l',l'.length)/\l'.length=n.edges.length/\∀ s,s∈l'->s.size<9223372036854775808:=by
  intro m
  induction m with
  |zero=>intro i l h1 h2;omega
  |succ m ih =>
    intro i l h1 h2 h3 h4;rw [ze1];by_cases c:(i:Int)<(n.edges.length:Int)
    . have hi:i<n.edges.length:=by omega
      rw [zAc c,zAc ⟨by omega,c⟩,zAc (by omega),za4 i (by omega),zi8 n.edges i];refine ih (i+1) _ (by omega) (by omega) (by simp [h3]) fun s hm=>?_;rcases im.1 hm with q|q
      . exact h4 s q
      . simp only [gt] at q;subst q;exact hs _ (zcw hi)
    . rw [zAd c];exact ⟨l,by rw [h3],by omega,h4⟩
theorem znc {k:Nat} {n:Net} (v:Int):zg1 k n v=some (decide (znb n v)):=by
  unfold zg1 znb;by_cases h:0<=v
  . rw [zAc h];simp [h]
  . rw [zAd h];simp [h]
theorem yo8 (k:Nat) (n:Net) (hn:n.nodes.length<=1000):∀ (m i:Nat),i<=n.nodes.length->n.nodes.length - i<m->∃ r,ze5 k n m (i:Int)=some r/\(r=.inr ()\/r=.inl 1):=by
  intro m
  induction m with
  |zero=>intro i h1 h2;omega
  |succ m ih =>
    intro i h1 h2;rw [ze5];by_cases c:(i:Int)<(n.nodes.length:Int)
    . obtain ⟨r,hr,hq⟩:=ih (i+1) (by omega) (by omega);rw [zAc c,zAc ⟨by omega,c⟩,za4 i (by omega),hr]
      (repeat' split)<;>first|exact ⟨_,rfl,.inr rfl⟩|exact ⟨_,rfl,hq⟩
    . rw [zAd c];exact ⟨_,rfl,.inl rfl⟩
def yk8 (n:Net) (l:Link):Prop:=znb n l.frm/\znb n l.to/\l.frm≠l.to/\0<=l.cap/\l.cap<=1048576
theorem yo7 (k:Nat) (n:Net) (hn:n.links.length<=10000):∀ (m i:Nat),i<=n.links.length->n.links.length - i<m->(∀ j,j<i->yk8 n (n.links.getD j default))->∃ r,ze4 k n m (i:Int)=some r/\((r=.inr ()/\∀ j,j<n.links.length->yk8 n (n.links.getD j default))\/r=.inl 1):=by
  intro m
  induction m with
  |zero=>intro i h1 h2;omega
  |succ m ih =>
    intro i h1 h2 h3;rw [ze4];by_cases c:(i:Int)<(n.links.length:Int)
    . have hi:i<n.links.length:=by omega
      rw [zAc c,zAc ⟨by omega,c⟩,za4 i (by omega),zi8 n.links i,znc,znc,fe,fe];by_cases q1:znb n (n.links.getD i default).frm
      . rw [zAc (zAa q1)];by_cases q2:znb n (n.links.getD i default).to
        . rw [zAc (zAa q2)];by_cases q3:(n.links.getD i default).frm=(n.links.getD i default).to
          . rw [zAc q3];exact ⟨_,rfl,.inr rfl⟩
          . rw [zAd q3];by_cases q4:(n.links.getD i default).cap<0
            . rw [zAc q4];exact ⟨_,rfl,.inr rfl⟩
            . rw [zAd q4];by_cases q5:1048576<(n.links.getD i default).cap
              . rw [zAc q5];exact ⟨_,rfl,.inr rfl⟩
              . rw [zAd q5];exact ih (i+1) (by omega) (by omega) fun j hj=>by rcases Nat.lt_succ_iff_lt_or_eq.1 hj with q|q;exact h3 j q;rw [q];exact ⟨q1,q2,q3,by omega,by omega⟩
        . rw [zAd (by simpa using q2)];exact ⟨_,rfl,.inr rfl⟩
      . rw [zAd (by simpa using q1)];exact ⟨_,rfl,.inr rfl⟩
    . rw [zAd c];exact ⟨_,rfl,.inl ⟨rfl,fun j hj=>h3 j (by omega)⟩⟩
theorem yo6 (k:Nat) (n:Net) (hn:n.edges.length<=1000):∀ (m i:Nat),i<=n.edges.length->n.edges.length - i<m->∃ r,ze3 k n m (i:Int)=some r/\(r=.inr ()\/r=.inl 1):=by
  intro m
  induction m with
  |zero=>intro i h1 h2;omega
  |succ m ih =>
    intro i h1 h2;rw [ze3];by_cases c:(i:Int)<(n.edges.length:Int)
    . obtain ⟨r,hr,hq⟩:=ih (i+1) (by omega) (by omega);rw [zAc c,zAc ⟨by omega,c⟩,za4 i (by omega),hr,znc,fe];split
      . exact ⟨_,rfl,hq⟩
      . exact ⟨_,rfl,.inr rfl⟩
    . rw [zAd c];exact ⟨_,rfl,.inl rfl⟩
structure Held (n:Net):Prop where
  nodes:∀ x,x∈n.nodes->x.name.size<9223372036854775808
  edges:∀ x,x∈n.edges->x.name.size<9223372036854775808
def yg3 (t:List Rule) (j:Int):Int:=if j=0 then 65536 else (gx t (j - 1)).prio
def zp8 (n:Net) (steps:Int) (t:List Rule) (j:Nat):Bool:=formed n steps (t.getD j default) && decide ((t.getD j default).prio<yg3 t j)
def zqk (n:Net) (steps:Int) (t:List Rule):Int×Int :=
  if steps<0\/1000<steps then (0,1) else if 4000<t.length then (0,2) else
  match (kj t.length).findSome? (fun j=>if zp8 n steps t j=true then none else some ((j:Int),(1:Int))) with
  |some r=>r
  |none=>(0,0)
theorem ycg {k:Nat} (n:Net) (steps:Int) (t:List Rule) (ht:zlh t) (hk:big<=k):zk5 k n steps t=some (zqk n steps t):=by
  unfold zk5 zqk
  have hloop:zcu k n steps t k 0=some (sumO ((kj t.length).findSome? (fun j=>if zp8 n steps t j=true then none else some ((j:Int),(1:Int))))):=by
    refine zq3 (L:=zcu k n steps t) t.length _ ht.1 (fun m j h=>?_) (fun m=>by rw [zcu,zAd (by omega)]) (gq ht.1 hk);have hb:j<9223372036854775808:=by have:=ht.1;simp only [big] at this;omega
    rw [zcu,zAc (zan h),zAc ⟨by omega,zan h⟩,zdq h,z9g n steps _ (ht.2 _ (jo h)) hk,fe]
    have hg:zp8 n steps t j=(formed n steps t[j] && decide (t[j].prio<yg3 t j)):=by
      unfold zp8;rw [fo,fj h];rfl
    rw [hg]
    cases hf:formed n steps t[j] with
    |false=>rfl
    |true =>
      simp only [if_true,jx,decide_eq_true_eq];unfold yg3;by_cases c0:0<(j:Int)
      . have e1:fh.wrap ((j:Int) - 1)=((j - 1:Nat):Int):=by rw [wr64 (by omega)];omega
        have e2:(j:Int) - 1=((j - 1:Nat):Int):=by omega
        have h2:j - 1<t.length:=by omega
        rw [zAc c0,e1,zAc ⟨by omega,by omega⟩,zAd (show ¬ (j:Int)=0 by omega),e2,zdq h2];by_cases c:t[j - 1].prio<=t[j].prio
        . rw [zAc c,zAd (by omega)]
        . rw [zAd c,zAc (by omega)]
      . have hp:t[j].prio<=65535:=by
          unfold formed at hf;simp only [fi,decide_eq_true_eq] at hf;exact hf.1.2
        rw [zAd c0,zAc (show (j:Int)=0 by omega),zAc (by omega)]
  rw [hloop];by_cases c1:steps<0
  . rw [zAc c1,zAc (show steps<0\/1000<steps from .inl c1)];rfl
  . rw [zAd c1];by_cases c2:1000<steps
    . rw [zAa c2,zAc (show steps<0\/1000<steps from .inr c2)];rfl
    . rw [zAb c2,zAd (show ¬ (steps<0\/1000<steps) by omega),fe];simp only [qr,if_false];by_cases c3:4000<t.length
      . rw [zAc (by omega),zAc c3]
      . rw [zAd (by omega),zAd c3,fe];cases (kj t.length).findSome? _<;>rfl
def fewT (t:List Rule) (most:Int):Bool:=t.all (fun r=>decide (r.outs.length<=20) && r.outs.all fun l=>decide (l.length<=10)) && decide ((t.length:Int)<=most)
theorem ylo {k:Nat} (t:List Rule) (most:Int) (ht:zlh t) (hk:big<=k):zpd k t most=some (fewT t most):=by
  unfold zpd fewT
  rw [zpy (L:=zfq k t) t false (fun r=>decide (r.outs.length<=20) && r.outs.all fun l=>decide (l.length<=10)) ht.1 (fun m j h=>by
    rw [zfq,zAc (zan h),zAc ⟨by omega,zan h⟩,zdq h];by_cases c:20<(t[j].outs.length:Int)
    . rw [zAc c,zAb (by omega)];rfl
    . rw [zAd c,zAa (by omega)];have hr:=(ht.2 _ (jo h)).1
      rw [zpy (L:=zfp k t (j:Int)) t[j].outs false (fun l=>decide (l.length<=10)) hr (fun m i hi=>by
        rw [zfp,zdq h,zAc (zan hi),zAc ⟨by omega,zan hi⟩,zdq hi];by_cases d:10<(t[j].outs[i].length:Int)
        . rw [zAc d,zAb (by omega)];rfl
        . rw [zAd d,zAa (by omega)];rfl) (fun m=>by rw [zfp,zdq h,zAd (by omega)]) (gq hr hk),fe]
      simp only [jx]
      cases t[j].outs.all _<;>rfl) (fun m=>by rw [zfq,zAd (by omega)]) (gq ht.1 hk),fe]
  cases t.all _<;>rfl
theorem zs8 {a b:Nat} (ha:a<2 ^ 64) (hb:b<2 ^ 64) (i:Nat):(a - (a &&& b)).testBit i=(a.testBit i && !b.testBit i):=by
  rw [<- zo3 64 ha hb,lp,show 2 ^ 64 - 1 - b=2 ^ 64 - (b+1) by omega,Nat.testBit_two_pow_sub_succ hb];by_cases hi:i<64
  . simp [hi]
  . have:a.testBit i=false:=mn (gq ha (lw (by decide) (by omega)));simp [this]
theorem zsd {a b:Nat} (ha:a<65536) (hb:b<65536) (h:∀ t,t<16->a.testBit t=b.testBit t):a=b:=by
  apply ny;intro t;by_cases ht:t<16
  . exact h t ht
  . have e:65536<=2 ^ t:=lw (n:=2) (by decide) (show 16<=t by omega);rw [mn (gq ha e),mn (gq hb e)]
theorem zwf {t s:Nat}:(2 ^ t).testBit s=decide (t=s):=Nat.testBit_two_pow
theorem yfj {w t:Nat} (hw:w<65536) (ht:t<16) (h:w.testBit t=false):w+2 ^ t=w ||| 2 ^ t:=by
  have hp:2 ^ t<65536:=o6 (by decide) ht;have ho:w ||| 2 ^ t<2 ^ 16:=pu hw hp
  have e1:(w ||| 2 ^ t) &&& 2 ^ t=2 ^ t:=by
    apply ny;intro s;rw [lp,od];cases (2 ^ t).testBit s<;>simp
  have e2:(w ||| 2 ^ t) - ((w ||| 2 ^ t) &&& 2 ^ t)=w:=by
    apply ny;intro s;rw [zs8 (by omega) (by omega),od,zwf];by_cases hs:t=s
    . subst hs;simp [h]
    . simp [hs]
  have e3:2 ^ t<=w ||| 2 ^ t:=Nat.right_le_or
  omega
theorem ylh {w t:Nat} (hw:w<65536) (ht:t<16) (h:w.testBit t=true):2 ^ t<=w/\∀ s,(w - 2 ^ t).testBit s=(w.testBit s && !decide (t=s)):=by
  have hp:2 ^ t<65536:=o6 (by decide) ht
  have e1:w &&& 2 ^ t=2 ^ t:=by
    apply ny;intro s;rw [lp,zwf];by_cases hs:t=s
    . subst hs;simp [h]
    . simp [hs]
  have h1:w &&& 2 ^ t<=w:=pi;refine ⟨by omega,fun s=>?_⟩;have:=zs8 (a:=w) (b:=2 ^ t) (by omega) (by omega) s;rw [e1,zwf] at this;exact this
/-! heads -/
def hw (h:Ar 10) (i:Nat):Nat:=(gx h.l (i:Int)).toNat
def hbit (h:Ar 10) (i:Nat):Bool:=(hw h (i / 16)).testBit (15 - i % 16)
theorem zbg {h:Ar 10} (hr:zac h=true) {i:Nat} (hi:i<10):gx h.l (i:Int)=(hw h i:Int)/\hw h i<65536:=by
  obtain ⟨n,h1,h2⟩:=zzc hr hi;unfold hw;rw [h1];exact ⟨by simp,by simpa using h2⟩
theorem z8y (j t:Nat) (hj:j<10) (ht:t<16):(16*j+(15 - t)) / 16=j/\15 - (16*j+(15 - t)) % 16=t/\16*j+(15 - t)<160:=by omega
theorem zkr (h:Ar 10) {j t:Nat} (hj:j<10) (ht:t<16):hbit h (16*j+(15 - t))=(hw h j).testBit t:=by
  obtain ⟨a,b,_⟩:=z8y j t hj ht;unfold hbit;rw [a,b]
theorem yot {n:Nat} {a b:Ar n} (h:∀ j:Nat,j<n->gx a.l (j:Int)=gx b.l (j:Int)):a=b:=by
  apply Ar.ext';apply List.ext_getElem (by rw [a.h,b.h]);intro i h1 h2;have:=h i (by rw [<- a.h];exact h1)
  rwa [zdq h1,zdq h2] at this
theorem zn8 {a b:Ar 10} (ha:zac a=true) (hb:zac b=true) (h:∀ i,i<160->hbit a i=hbit b i):a=b:=by
  apply yot;intro j hj;obtain ⟨a1,a2⟩:=zbg ha hj;obtain ⟨b1,b2⟩:=zbg hb hj;rw [a1,b1,zsd a2 b2 fun t ht=>by rw [<- zkr a hj ht,<- zkr b hj ht];exact h _ (z8y j t hj ht).2.2]
theorem zio {h:Ar 10} (hh:∀ j:Nat,j<10->∃ n:Nat,gx h.l (j:Int)=(n:Int)/\n<65536):zac h=true:=by
  unfold zac;rw [zvg];intro j hj;have hj':j<10:=by rw [<- h.h];exact hj
  obtain ⟨n,h1,h2⟩:=hh j hj';rw [zdq hj] at h1;rw [h1];exact zAa (by omega)
/-! one bit -/
theorem zwb {k i:Nat} (hi:i<160) (hk:16<k):zjk k (i:Int)=some ((2 ^ (15 - i % 16):Nat):Int):=by
  have key:∀ m kk,kk<=i % 16->i % 16 - kk<m->ze6 k (i:Int) m ((2 ^ (15 - kk):Nat):Int) (kk:Int)=some ((2 ^ (15 - i % 16):Nat):Int):=by
    intro m
    induction m with
    |zero=>intro kk h1 h2;omega
    |succ m ih =>
      intro kk h1 h2;rw [ze6,zAc ⟨by omega,by decide⟩];by_cases c:kk<i % 16
      . have hp:2 ^ (15 - kk)=2 ^ (15 - (kk+1))*2:=by rw [<- sm];congr 1;omega
        have hb:2 ^ (15 - kk)<=2 ^ 15:=lw (by decide) (by omega);rw [zAc (by omega),zAc ⟨by omega,by decide⟩,za4 kk (by omega)];have e:fh.wrap (((2 ^ (15 - kk):Nat):Int) / 2)=((2 ^ (15 - (kk+1)):Nat):Int):=by rw [wr64 (by omega)];omega
        rw [e];exact ih (kk+1) (by omega) (by omega)
      . rw [zAd (by omega),show kk=i % 16 by omega]
  unfold zjk;have:=key k 0 (io _) (by omega);rw [show ((2 ^ (15 - 0):Nat):Int)=32768 by decide] at this;rw [show (0:Int)=((0:Nat):Int) from rfl,this];rfl
theorem zyo {i:Nat} (hi:i<160):fh.wrap ((i:Int) / 16)=((i / 16:Nat):Int):=by rw [wr64 (by omega)];omega
theorem zgi {k i:Nat} {h:Ar 10} (hr:zac h=true) (hi:i<160) (hk:16<k):zdn k h (i:Int)=some ((hbit h i).toNat:Int):=by
  unfold zdn;obtain ⟨a1,a2⟩:=zbg hr (i:=i / 16) (by omega);rw [zAc ⟨by omega,by decide⟩,zyo hi,zAc ⟨by omega,by omega⟩,zwb hi hk,fe,a1];have hp:0<2 ^ (15 - i % 16):=Nat.two_pow_pos _;rw [zAc ⟨by omega,by omega⟩]
  have e:fh.wrap ((hw h (i / 16):Int) / ((2 ^ (15 - i % 16):Nat):Int))=((hw h (i / 16) / 2 ^ (15 - i % 16):Nat):Int):=by
    have:hw h (i / 16) / 2 ^ (15 - i % 16)<=hw h (i / 16):=rh _ _;rw [<- Int.natCast_ediv];generalize hw h (i / 16) / 2 ^ (15 - i % 16)=q at *;rw [wr64 (by omega)]
  rw [e];unfold hbit;rw [Nat.testBit_eq_decide_div_mod_eq];generalize hw h (i / 16) / 2 ^ (15 - i % 16)=q at *;rw [zAc ⟨by omega,by decide⟩];congr 1;by_cases c:q % 2=1
  . rw [zAa c];simp only [Bool.toNat_true];omega
  . rw [zAb c];simp only [qd];omega
/-! matching -/
def zaq (p:Pat) (h:Ar 10):Bool:=(kj 160).all fun i=>!hbit p.mask i || (hbit p.bits i == hbit h i)
theorem zas {p:Pat} {h:Ar 10}:zaq p h=true↔∀ i,i<160->hbit p.mask i=true->hbit p.bits i=hbit h i:=by
  unfold zaq;rw [h9];constructor
  . intro hh i hi hm;have:=hh i (ky.2 hi);rw [hm] at this;simpa using this
  . intro hh i hi;have:=hh i (ky.1 hi)
    cases hm:hbit p.mask i with
    |false=>rfl
    |true=>simpa using this hm
theorem zv7 {b h m:Nat} (hb:b<65536) (hh:h<65536) (hm:m<65536):(b ^^^ h) &&& m=0↔∀ t,t<16->m.testBit t=true->b.testBit t=h.testBit t:=by
  constructor
  . intro h0 t ht h1;have:=congrArg (fun x=>Nat.testBit x t) h0;simp only [lp,Nat.testBit_xor,oh,h1,Bool.and_true] at this;revert this;cases b.testBit t<;>cases h.testBit t<;>simp
  . intro h0;apply zsd (oq Nat.and_le_right hm) (by decide);intro t ht;simp only [lp,Nat.testBit_xor,oh]
    cases h1:m.testBit t with
    |false=>simp
    |true=>rw [h0 t ht h1];simp
theorem zah {p:Pat}:zaf p=true↔zac p.mask=true/\zac p.bits=true/\∀ i,i<160->hbit p.bits i=true->hbit p.mask i=true:=by
  unfold zaf
  simp only [fi];refine and_congr_right fun hm=>and_congr_right fun hb=>?_;unfold zyr;rw [h9]
  have key:∀ j:Nat,j<10->(decide (iAnd .i64 (gx p.bits.l (j:Int)) (gx p.mask.l (j:Int))=gx p.bits.l (j:Int))=true↔∀ t,t<16->(hw p.bits j).testBit t=true->(hw p.mask j).testBit t=true):=by
    intro j hj;obtain ⟨a1,a2⟩:=zbg hb hj;obtain ⟨b1,b2⟩:=zbg hm hj;rw [a1,b1,zsu (by omega) (by omega),decide_eq_true_eq];constructor
    . intro h t ht h1;have h':hw p.bits j &&& hw p.mask j=hw p.bits j:=by omega
      rw [<- h',lp] at h1;simp only [fi] at h1;exact h1.2
    . intro h;congr 1;apply zsd (oq pi a2) a2;intro t ht;rw [lp]
      cases h1:(hw p.bits j).testBit t with
      |false=>rfl
      |true=>rw [h t ht h1];rfl
  constructor
  . intro h i hi h1;have:=(key (i / 16) (by omega)).1 (h _ (ky.2 (by omega))) (15 - i % 16) (by omega);exact this h1
  . intro h j hj;have hj':=ky.1 hj
    exact (key j hj').2 fun t ht h1=>by
      rw [<- zkr p.mask hj' ht];exact h _ (z8y j t hj' ht).2.2 (by rw [zkr p.bits hj' ht];exact h1)
theorem ydf {a:Nat} (h:a<160):(a:Int)<160:=by omega
theorem z0e {a b:Bool}:((a.toNat:Int)≠(b.toNat:Int))↔a≠b:=by cases a<;>cases b<;>decide
theorem zl5 {a:Bool}:((a.toNat:Int)=1)↔a=true:=by cases a<;>decide
/-! rewriting -/
def zvm (m:Pat) (h x:Ar 10):Prop:=zac x=true/\∀ i,i<160->hbit x i=if hbit m.mask i=true then hbit m.bits i else hbit h i
theorem zvm.uniq {m:Pat} {h x y:Ar 10} (a:zvm m h x) (b:zvm m h y):x=y:=zn8 a.1 b.1 fun i hi=>by rw [a.2 i hi,b.2 i hi]
theorem zf7 {n:Nat} {a:Ar n} {i:Nat} (v:Int) (hi:i<n):gx (a.set (i:Int) v).l (i:Int)=v:=by
  show (a.l.set i v).getD i default=v;rw [fo,List.getElem?_set_self (by rw [a.h];exact hi)];rfl
theorem ziv {n:Nat} {a:Ar n} {i j:Nat} (v:Int) (hj:j<n) (h:i≠j):gx (a.set (i:Int) v).l (j:Int)=gx a.l (j:Int):=by
  show (a.l.set i v).getD j default=a.l.getD j default;rw [fo,fo,List.getElem?_set_ne h]
theorem zj7 {k i:Nat} {h:Ar 10} {b:Bool} (hr:zac h=true) (hi:i<160) (hk:16<k):∃ x,zfl k h (i:Int) (b.toNat:Int)=some x/\zac x=true/\∀ j,j<160->hbit x j=if j=i then b else hbit h j:=by
  unfold zfl;obtain ⟨a1,a2⟩:=zbg hr (i:=i / 16) (by omega);rw [zAc ⟨by omega,by decide⟩,zyo hi,zAc ⟨by omega,by omega⟩,zgi hr hi hk,fe,zwb hi hk,fe,a1];have ht:15 - i % 16<16:=by omega
  have hp:2 ^ (15 - i % 16)<65536:=o6 (by decide) ht;have hpp:0<2 ^ (15 - i % 16):=Nat.two_pow_pos _;have hi10:i / 16<10:=by omega
  -- the new word
  have hnew:∃ w:Nat,fh.wrap ((hw h (i / 16):Int)+fh.wrap (fh.wrap ((b.toNat:Int) - ((hbit h i).toNat:Int))*((2 ^ (15 - i % 16):Nat):Int)))=(w:Int)/\w<65536/\∀ s,w.testBit s=if s=15 - i % 16 then b else (hw h (i / 16)).testBit s:=by
    cases hb:hbit h i with
    |false =>
      have hb':(hw h (i / 16)).testBit (15 - i % 16)=false:=hb
      cases b with
      |false =>
        refine ⟨hw h (i / 16),?_,a2,fun s=>?_⟩
        . simp only [qd,Int.natCast_zero,Int.sub_self];rw [wr64 (n:=0) (by omega),Int.zero_mul,wr64 (n:=0) (by omega),Int.add_zero,wr64 (by omega)]
        . by_cases hs:s=15 - i % 16
          . rw [zAc hs,hs,hb']
          . rw [zAd hs]
      |true =>
        refine ⟨hw h (i / 16)+2 ^ (15 - i % 16),?_,?_,fun s=>?_⟩
        . simp only [Bool.toNat_true,qd];rw [wr64 (n:=((1:Nat):Int) - ((0:Nat):Int)) (by omega),show ((1:Nat):Int) - ((0:Nat):Int)=1 by omega,Int.one_mul,wr64 (n:=((2 ^ (15 - i % 16):Nat):Int)) (by omega),wr64 (by omega)];omega
        . rw [yfj a2 ht hb'];exact pu (n:=16) a2 hp
        . rw [yfj a2 ht hb',od,zwf];by_cases hs:s=15 - i % 16
          . rw [zAc hs];simp [hs]
          . rw [zAd hs];simp [Ne.symm hs]
    |true =>
      have hb':(hw h (i / 16)).testBit (15 - i % 16)=true:=hb;obtain ⟨g1,g2⟩:=ylh a2 ht hb'
      cases b with
      |true =>
        refine ⟨hw h (i / 16),?_,a2,fun s=>?_⟩
        . simp only [Int.sub_self];rw [wr64 (n:=0) (by omega),Int.zero_mul,wr64 (n:=0) (by omega),Int.add_zero,wr64 (by omega)]
        . by_cases hs:s=15 - i % 16
          . rw [zAc hs,hs,hb']
          . rw [zAd hs]
      |false =>
        refine ⟨hw h (i / 16) - 2 ^ (15 - i % 16),?_,by omega,fun s=>?_⟩
        . simp only [Bool.toNat_true,qd];rw [wr64 (n:=((0:Nat):Int) - ((1:Nat):Int)) (by omega),show ((0:Nat):Int) - ((1:Nat):Int)=-1 by omega,wr64 (n:=-1*((2 ^ (15 - i % 16):Nat):Int)) (by omega),wr64 (by omega)];omega
        . rw [g2];by_cases hs:s=15 - i % 16
          . rw [zAc hs];simp [hs]
          . rw [zAd hs];simp [Ne.symm hs]
  obtain ⟨w,e1,e2,e3⟩:=hnew;refine ⟨_,rfl,?_,?_⟩
  . rw [e1];refine zio fun j hj=>?_;by_cases hij:i / 16=j
    . subst hij;exact ⟨w,zf7 _ hj,e2⟩
    . rw [ziv _ hj hij];exact ⟨_,(zbg hr hj).1,(zbg hr hj).2⟩
  . intro j hj;rw [e1];unfold hbit;have hj10:j / 16<10:=by omega
    by_cases hij:i / 16=j / 16
    . have:hw (h.set ((i / 16:Nat):Int) (w:Int)) (j / 16)=w:=by
        unfold hw;rw [<- hij,zf7 _ hi10];rfl
      rw [this,e3,<- hij];by_cases hm:j=i
      . subst hm;rw [zAc rfl,zAc rfl]
      . rw [zAd hm,zAd (by omega)]
    . have:hw (h.set ((i / 16:Nat):Int) (w:Int)) (j / 16)=hw h (j / 16):=by
        unfold hw;rw [ziv _ hj10 hij]
      rw [this,zAd (fun hm=>hij (by rw [hm]))]
theorem ycj {k:Nat} {m:Pat} {h:Ar 10} (hp:zaf m=true) (hh:zac h=true) (hk:160<k):∃ x,zlb k m h=some x/\zvm m h x:=by
  obtain ⟨pm,pb,pw⟩:=zah.1 hp
  have key:∀ fu i (x:Ar 10),i<=160->160 - i<fu->zac x=true->(∀ j,j<160->hbit x j=if j<i/\hbit m.mask j=true then hbit m.bits j else hbit h j)->∃ y,zdz k m fu (i:Int) x=some y/\zvm m h y:=by
    intro fu
    induction fu with
    |zero=>intro i x h1 h2;omega
    |succ fu ih =>
      intro i x h1 h2 h3 h4;rw [zdz];by_cases c:i<160
      . rw [zAc (ydf c),zgi pm c (by omega),fe,zgi pb c (by omega),za4 i (by omega)];by_cases d:hbit m.mask i=true
        . rw [zAc (zl5.2 d),fe];obtain ⟨y,s1,s2,s3⟩:=zj7 (b:=hbit m.bits i) h3 c (show 16<k by omega);rw [s1,fe];refine ih (i+1) y (by omega) (by omega) s2 fun j hj=>?_;rw [s3 j hj];by_cases hji:j=i
          . subst hji;rw [zAc rfl,zAc ⟨by omega,d⟩]
          . rw [zAd hji,h4 j hj];by_cases hq:j<i/\hbit m.mask j=true
            . rw [zAc hq,zAc ⟨by omega,hq.2⟩]
            . rw [zAd hq,zAd (fun hh2=>hq ⟨by omega,hh2.2⟩)]
        . rw [zAd (fun hq=>d (zl5.1 hq))];refine ih (i+1) x (by omega) (by omega) h3 fun j hj=>?_;rw [h4 j hj];by_cases hji:j=i
          . subst hji;rw [zAd (fun hq=>d hq.2),zAd (fun hq=>d hq.2)]
          . by_cases hq:j<i/\hbit m.mask j=true
            . rw [zAc hq,zAc ⟨by omega,hq.2⟩]
            . rw [zAd hq,zAd (fun hh2=>hq ⟨by omega,hh2.2⟩)]
      . obtain rfl:i=160:=by omega
        rw [zAd (by decide)];refine ⟨x,rfl,h3,fun j hj=>?_⟩;rw [h4 j hj];by_cases hq:hbit m.mask j=true
        . rw [zAc ⟨hj,hq⟩,zAc hq]
        . rw [zAd (fun hh2=>hq hh2.2),zAd hq]
  obtain ⟨y,h1,h2⟩:=key k 0 h (by omega) (by omega) hh fun j hj=>by rw [zAd (fun hq=>Nat.not_lt_zero _ hq.1)]
  refine ⟨y,?_,h2⟩;unfold zlb;rw [show (0:Int)=((0:Nat):Int) from rfl,h1];rfl
theorem z7z {α:Type} [Inhabited α] (q:α->Bool):∀ (l:List α),(l.find? q=none/\idxB q l=-1)\/∃ i:Nat,∃ h:i<l.length,idxB q l=(i:Int)/\l.find? q=some l[i]
  |[]=>.inl ⟨rfl,rfl⟩
  |x :: l=>by
    unfold idxB;rw [List.findIdx?_cons,List.find?_cons]
    cases hq:q x with
    |true=>exact .inr ⟨0,by simp,rfl,rfl⟩
    |false =>
      rcases z7z q l with ⟨h1,h2⟩|⟨i,hi,h1,h2⟩
      . left;unfold idxB at h2;refine ⟨h1,?_⟩
        cases hf:l.findIdx? q with
        |none=>rfl
        |some j=>rw [hf] at h2;simp at h2;try omega
      . right;unfold idxB at h1;refine ⟨i+1,by simpa using hi,?_,by simpa using h2⟩
        cases hf:l.findIdx? q with
        |none=>rw [hf] at h1;simp at h1;try omega
        |some j=>rw [hf] at h1;simp at h1 ⊢;omega
def yl1 (t:List Rule) (h:Ar 10):Int:=idxB (fun r=>zaq r.mat h) t
theorem zqc {α β:Type} {c:α->Option β}:∀ {l:List α},l.findSome? c=none->∀ x,x∈l->c x=none
  |[],_,x,hx=>by cases hx
  |y :: l,h,x,hx=>by
    rw [n7] at h
    cases hc:c y with
    |some b=>rw [hc] at h;cases h
    |none =>
      rw [hc] at h
      cases hx with
      |head=>exact hc
      |tail _ hx=>exact zqc h x hx
theorem z3a {n:Net} {steps:Int} {t:List Rule} (h:(zqk n steps t).2=0):t.length<=4000/\∀ j,j<t.length->zp8 n steps t j=true:=by
  unfold zqk at h;by_cases c1:steps<0\/1000<steps
  . rw [zAc c1] at h;cases h
  . rw [zAd c1] at h;by_cases c2:4000<t.length
    . rw [zAc c2] at h;cases h
    . rw [zAd c2] at h;refine ⟨by omega,fun j hj=>?_⟩
      cases hf:(kj t.length).findSome? (fun j=>if zp8 n steps t j=true then none else some ((j:Int),(1:Int))) with
      |some r =>
        rw [hf] at h;obtain ⟨x,_,hx⟩:=List.exists_of_findSome?_eq_some hf;simp only at h;split at hx
        . cases hx
        . cases hx;cases h
      |none =>
        have:=zqc hf j (ky.2 hj)
        cases hg:zp8 n steps t j with
        |true=>rfl
        |false=>rw [hg] at this;simp at this
theorem yef {n:Net} {steps:Int} {t:List Rule} (h:(zqk n steps t).2=0):∀ r,r∈t->formed n steps r=true:=by
  intro r hr;obtain ⟨j,hj,rfl⟩:=mo hr;have:=(z3a h).2 j hj;unfold zp8 at this;rw [fo,fj hj] at this;simp only [fi] at this;exact this.1
theorem wru {n:Nat} (h:n<18446744073709551616):fy.wrap (n:Int)=(n:Int):=by
  show ((n:Int)) % (2 ^ 64:Int)=_;omega
theorem uAnd {a m:Nat} {c:Int} (hc:c=(m:Int)) (ha:a<18446744073709551616) (hm:m<18446744073709551616):iAnd .u64 (a:Int) c=((o7 a m:Nat):Int):=by
  subst hc;have h:a &&& m<=a:=pi;show fy.wrap ((i6 64 (a:Int) &&& i6 64 (m:Int)).toNat:Int)=_;rw [oe,lm,lm];rw [show ((a:Int) % ((2 ^ 64:Nat):Int)).toNat=a by omega,show ((m:Int) % ((2 ^ 64:Nat):Int)).toNat=m by omega];exact wru (by omega)
theorem uShr {a:Nat} {c:Int} (s:Nat) (hc:c=(s:Int)) (hs:s<=64):iShr .u64 (a:Int) c=((mv a (2 ^ s):Nat):Int):=by
  subst hc;unfold iShr
  have e:min ((s:Int)).toNat fy.bits=s:=by
    show min ((s:Int)).toNat 64=s;omega
  rw [e,Int.fdiv_eq_ediv_of_nonneg _ (by exact Int.le_of_lt (Int.pow_pos (by decide)))];show (a:Int) / (2:Int) ^ s=((a / 2 ^ s:Nat):Int);rw [Int.natCast_ediv,Int.natCast_pow];rfl
theorem uAdd {a b:Nat}:fy.wrap ((a:Int)+(b:Int))=((pv (pj a b) 18446744073709551616:Nat):Int):=by
  show ((a:Int)+(b:Int)) % (2 ^ 64:Int)=(((a+b) % 18446744073709551616:Nat):Int);omega
def stA (x:Nat):Nat:=pv (pj (o7 (mv x 2) 6148914691236517205) (o7 x 6148914691236517205)) 18446744073709551616
def stB (x:Nat):Nat:=pv (pj (o7 (mv x 4) 3689348814741910323) (o7 x 3689348814741910323)) 18446744073709551616
def stC (x:Nat):Nat:=o7 (pv (pj (mv x 16) x) 18446744073709551616) 1085102592571150095
def stD (s x:Nat):Nat:=pv (pj x (mv x s)) 18446744073709551616
def popF (x:Nat):Nat:=stD 4294967296 (stD 65536 (stD 256 (stC (stB (stA x)))))
def popG (x:Nat):Nat:=o7 (popF x) 127
theorem z65 (a:Nat):pv a 18446744073709551616<18446744073709551616:=Nat.mod_lt _ (by decide)
theorem z0l {k x:Nat} (hx:x<65536) (hf:popF x<9223372036854775808):zcj k (x:Int)=some ((popG x:Nat):Int):=by
  unfold zcj;rw [zAc (by decide),zAc (by decide),zAc (by decide),zAc (by decide),zAc (by decide),zAc (by decide)];rw [uShr (a:=x) (c:=1) 1 rfl (by decide)];have l1:mv x (2 ^ 1)<18446744073709551616:=oq (rh _ _) (by omega);rw [uAnd (a:=mv x (2 ^ 1)) (c:=6148914691236517205) (m:=6148914691236517205) rfl l1 (by decide),uAnd (a:=x) (c:=6148914691236517205) (m:=6148914691236517205) rfl (by omega) (by decide),uAdd];obtain ⟨a,ha⟩:∃ a,a=stA x:=⟨_,rfl⟩;rw [show pv (pj (o7 (mv x (2 ^ 1)) 6148914691236517205) (o7 x 6148914691236517205)) 18446744073709551616=a from by rw [ha];rfl];have la:a<18446744073709551616:=by rw [ha];exact z65 _
  rw [uShr (a:=a) (c:=2) 2 rfl (by decide)];have l2:mv a (2 ^ 2)<18446744073709551616:=oq (rh _ _) la;rw [uAnd (a:=mv a (2 ^ 2)) (c:=3689348814741910323) (m:=3689348814741910323) rfl l2 (by decide),uAnd (a:=a) (c:=3689348814741910323) (m:=3689348814741910323) rfl la (by decide),uAdd];obtain ⟨b,hb⟩:∃ b,b=stB a:=⟨_,rfl⟩;rw [show pv (pj (o7 (mv a (2 ^ 2)) 3689348814741910323) (o7 a 3689348814741910323)) 18446744073709551616=b from by rw [hb];rfl];rw [uShr (a:=b) (c:=4) 4 rfl (by decide),uAdd (a:=mv b (2 ^ 4)) (b:=b),uAnd (c:=1085102592571150095) (m:=1085102592571150095) rfl (z65 _) (by decide)];obtain ⟨c,hc⟩:∃ c,c=stC b:=⟨_,rfl⟩;rw [show o7 (pv (pj (mv b (2 ^ 4)) b) 18446744073709551616) 1085102592571150095=c from by rw [hc];rfl];rw [uShr (a:=c) (c:=8) 8 rfl (by decide),uAdd];obtain ⟨d,hd⟩:∃ d,d=stD 256 c:=⟨_,rfl⟩;rw [show pv (pj c (mv c (2 ^ 8))) 18446744073709551616=d from by rw [hd];rfl];rw [uShr (a:=d) (c:=16) 16 rfl (by decide),uAdd];obtain ⟨e,he⟩:∃ e,e=stD 65536 d:=⟨_,rfl⟩;rw [show pv (pj d (mv d (2 ^ 16))) 18446744073709551616=e from by rw [he];rfl];rw [uShr (a:=e) (c:=32) 32 rfl (by decide),uAdd];have hF:pv (pj e (mv e (2 ^ 32))) 18446744073709551616=popF x:=by rw [he,hd,hc,hb,ha];rfl
  rw [hF,wr64 (by omega),show (127:Int)=((127:Nat):Int) from rfl,zsu hf (by decide)];rfl
def cntB (n x:Nat):Nat:=((kj n).filter fun t=>x.testBit t).length
theorem yew (n x:Nat):cntB (n+1) x=x % 2+cntB n (x / 2):=by
  unfold cntB;rw [List.range_succ_eq_map,List.filter_cons,List.filter_map,Nat.testBit_zero]
  have e:((fun t=>x.testBit t) ∘ Nat.succ)=fun t=>(x / 2).testBit t:=by
    funext t;show x.testBit (t+1)=_;rw [Nat.testBit_succ]
  rw [e];by_cases h:x % 2=1
  . rw [zAc (zAa h),gg,fq];omega
  . rw [zAd (by simpa using h),fq];omega
def ykr (x:Nat):Bool:=and (Nat.beq (popG (pg 2 x)) (popG x)) (and (Nat.beq (popG (Nat.succ (pg 2 x))) (Nat.succ (popG x))) (and (Nat.blt (popF (pg 2 x)) 9223372036854775808) (Nat.blt (popF (Nat.succ (pg 2 x))) 9223372036854775808)))
def yks:Bool:=(kj 128).all fun a=>(kj 256).all fun b=>ykr (pj (pg 256 a) b)
theorem z5f:yks=true:=by kernel_rfl
theorem yok {x:Nat} (hx:x<32768):popG (2*x)=popG x/\popG (2*x+1)=popG x+1/\popF (2*x)<9223372036854775808/\popF (2*x+1)<9223372036854775808:=by
  have h:=z5f;unfold yks at h;have h1:=h9.1 h (x / 256) (ky.2 (by omega));have h2:=h9.1 h1 (x % 256) (ky.2 (by omega));rw [show pj (pg 256 (x / 256)) (x % 256)=x from Nat.div_add_mod x 256] at h2;unfold ykr at h2;obtain ⟨q1,h2⟩:=and_true' h2;obtain ⟨q2,h2⟩:=and_true' h2;obtain ⟨q3,q4⟩:=and_true' h2;exact ⟨fk q1,fk q2,zae.1 q3,zae.1 q4⟩
where
  and_true' {a b:Bool} (h:and a b=true):a=true/\b=true:=by cases a<;>cases b<;>simp_all
theorem ycm:∀ n x,n<=16->x<2 ^ n->popG x=cntB n x/\popF x<9223372036854775808
  |0,x,_,h=>by
    obtain rfl:x=0:=by simpa using h
    exact ⟨by decide +kernel,by decide +kernel⟩
  |n+1,x,hn,h=>by
    have h2:x / 2<2 ^ n:=by rw [sm] at h;omega
    have h3:(2:Nat) ^ n<=2 ^ 15:=lw (by decide) (by omega);obtain ⟨i1,_⟩:=ycm n (x / 2) (by omega) h2;obtain ⟨c1,c2,c3,c4⟩:=yok (x:=x / 2) (by omega);rw [yew,<- i1];by_cases h4:x % 2=1
    . rw [show x=2*(x / 2)+1 by omega];rw [show (2*(x / 2)+1) / 2=x / 2 by omega,show (2*(x / 2)+1) % 2=1 by omega];exact ⟨by omega,c4⟩
    . have e:x=2*(x / 2):=by omega
      rw [e];rw [show (2*(x / 2)) / 2=x / 2 by omega,show (2*(x / 2)) % 2=0 by omega];exact ⟨by omega,c3⟩
theorem zv3 {k x:Nat} (hx:x<65536):zc7 k (x:Int)=some ((cntB 16 x:Nat):Int):=by
  obtain ⟨h1,h2⟩:=ycm 16 x (fm _) hx;unfold zc7;rw [z0l hx h2,h1];rfl
theorem z28 (x:Nat):cntB 16 x<=16/\((cntB 16 x=0/\∀ t,t<16->x.testBit t=false)\/(cntB 16 x=1/\∃ t,t<16/\x.testBit t=true/\∀ s,s<16->x.testBit s=true->s=t)\/(2<=cntB 16 x/\∃ s t,s<16/\t<16/\s≠t/\x.testBit s=true/\x.testBit t=true)):=by
  have hle:cntB 16 x<=16:=ju (ni _ _) (by rw [List.length_range];exact fm _);refine ⟨hle,?_⟩;unfold cntB;have hmem:∀ t,t∈(kj 16).filter (fun t=>x.testBit t)↔t<16/\x.testBit t=true:=fun t=>by rw [ox,ky]
  have hnd:((kj 16).filter fun t=>x.testBit t).Nodup:=List.Pairwise.filter _ List.nodup_range;generalize (kj 16).filter (fun t=>x.testBit t)=L at hmem hnd
  match L,hmem,hnd with
  | [], hmem, _ => exact .inl ⟨rfl, fun t ht => by
      cases hb:x.testBit t with
      |false=>rfl
      |true=>exact absurd ((hmem t).2 ⟨ht,hb⟩) (by simp)⟩
  |[t],hmem,_=>exact .inr (.inl ⟨rfl,t,((hmem t).1 (.head _)).1,((hmem t).1 (.head _)).2,fun s hs hb=>by simpa using (hmem s).2 ⟨hs,hb⟩⟩)
  |s :: t :: L,hmem,hnd =>
    have h1:=(hmem s).1 (.head _);have h2:=(hmem t).1 (.tail _ (.head _));refine .inr (.inr ⟨by simp,s,t,h1.1,h2.1,fun e=>?_,h1.2,h2.2⟩);subst e;simp at hnd
def zdk (p q:Pat):Bool:=(kj 160).all fun i=>!(hbit p.mask i && hbit q.mask i) || (hbit p.bits i == hbit q.bits i)
theorem ziq {p q:Pat}:zdk p q=true↔∀ i,i<160->hbit p.mask i=true->hbit q.mask i=true->hbit p.bits i=hbit q.bits i:=by
  unfold zdk;rw [h9];constructor
  . intro hh i hi hm hq;have:=hh i (ky.2 hi);rw [hm,hq] at this;simpa using this
  . intro hh i hi;have:=hh i (ky.1 hi)
    cases hm:hbit p.mask i with
    |false=>rfl
    |true =>
      cases hq:hbit q.mask i with
      |false=>rfl
      |true=>simpa using this hm hq
theorem zr6 {k:Nat} {p q:Pat} (hp:zaf p=true) (hq:zaf q=true) (hk:10<k):zgf k p q=some (zdk p q):=by
  obtain ⟨pm,pb,_⟩:=zah.1 hp;obtain ⟨qm,qb,_⟩:=zah.1 hq;unfold zgf
  rw [zhs (L:=zce k p q) 10 false (fun j=>decide ((hw p.bits j ^^^ hw q.bits j) &&& (hw p.mask j &&& hw q.mask j)=0)) (by decide) (fun m j hj=>by
    obtain ⟨a1,a2⟩:=zbg pb hj;obtain ⟨b1,b2⟩:=zbg pm hj;obtain ⟨c1,c2⟩:=zbg qb hj;obtain ⟨d1,d2⟩:=zbg qm hj;have hx:hw p.bits j ^^^ hw q.bits j<2 ^ 16:=sg a2 c2;have hy:(hw p.bits j ^^^ hw q.bits j) &&& hw p.mask j<=hw p.mask j:=Nat.and_le_right;rw [zce,zAc (lt10 hj),zAc ⟨by omega,lt10 hj⟩,a1,b1,c1,d1,z7p (by omega) (by omega),zsu (by omega) (by omega),zsu (by omega) (by omega),Nat.and_assoc];by_cases c:(hw p.bits j ^^^ hw q.bits j) &&& (hw p.mask j &&& hw q.mask j)=0
    . rw [zAd (by omega),zAc (zAa c)]
    . rw [zAc (by omega),zAd (by rw [decide_eq_true_eq];exact c)]) (fun m=>by rw [zce];exact zAd (by decide)) hk,fe]
  have e:(kj 10).all (fun j=>decide ((hw p.bits j ^^^ hw q.bits j) &&& (hw p.mask j &&& hw q.mask j)=0))=zdk p q:=by
    rw [ks,h9,ziq];have hand:∀ j,j<10->hw p.mask j &&& hw q.mask j<65536:=fun j hj=>oq pi (zbg pm hj).2;constructor
    . intro hall i hi h1 h2;have:=zAe (hall (i / 16) (ky.2 (by omega)));refine (zv7 (zbg pb (by omega)).2 (zbg qb (by omega)).2 (hand (i / 16) (by omega))).1 this (15 - i % 16) (by omega) ?_;rw [lp];unfold hbit at h1 h2;rw [h1,h2];rfl
    . intro hall j hj;have hj':=ky.1 hj;refine zAa ((zv7 (zbg pb hj').2 (zbg qb hj').2 (hand j hj')).2 fun t ht h1=>?_);rw [lp,fi] at h1;rw [<- zkr p.bits hj' ht,<- zkr q.bits hj' ht];exact hall _ (z8y j t hj' ht).2.2 (by rw [zkr p.mask hj' ht];exact h1.1) (by rw [zkr q.mask hj' ht];exact h1.2)
  rw [e];cases zdk p q<;>rfl
theorem z5v {a:Ar 10} {i w:Nat} (ha:zac a=true) (hi:i<160) (hw':w<65536):zac (a.set ((i / 16:Nat):Int) (w:Int))=true/\∀ j,j<160->hbit (a.set ((i / 16:Nat):Int) (w:Int)) j=if j / 16=i / 16 then w.testBit (15 - j % 16) else hbit a j:=by
  have hi10:i / 16<10:=by omega
  refine ⟨zio fun j hj=>?_,fun j hj=>?_⟩
  . by_cases c:i / 16=j
    . subst c;exact ⟨w,zf7 _ hi10,hw'⟩
    . rw [ziv _ hj c];exact ⟨_,(zbg ha hj).1,(zbg ha hj).2⟩
  . unfold hbit hw;by_cases c:i / 16=j / 16
    . rw [zAc c.symm,<- c,zf7 _ hi10];rfl
    . rw [zAd (fun q=>c q.symm),ziv _ (by omega) c]
theorem yaw {i:Nat}:2 ^ (15 - i % 16)<65536:=show 2 ^ (15 - i % 16)<2 ^ 16 from o6 (by decide) (by omega)
theorem yn0 {a:Ar 10} {i:Nat} (ha:zac a=true) (hi:i<160):zac (a.set ((i / 16:Nat):Int) (iOr .i64 (gx a.l ((i / 16:Nat):Int)) ((2 ^ (15 - i % 16):Nat):Int)))=true/\∀ j,j<160->hbit (a.set ((i / 16:Nat):Int) (iOr .i64 (gx a.l ((i / 16:Nat):Int)) ((2 ^ (15 - i % 16):Nat):Int))) j=(decide (j=i) || hbit a j):=by
  obtain ⟨a1,a2⟩:=zbg ha (show i / 16<10 by omega);have h2:=yaw (i:=i);rw [a1,z42 (by omega) (by omega)];obtain ⟨r1,r2⟩:=z5v ha hi (w:=hw a (i / 16) ||| 2 ^ (15 - i % 16)) (pu (n:=16) a2 h2);refine ⟨r1,fun j hj=>?_⟩;rw [r2 j hj];by_cases c:j / 16=i / 16
  . rw [zAc c,od,zwf,<- c,Bool.or_comm];congr 1;exact decide_eq_decide.2 (by omega)
  . rw [zAd c,zAb (by intro q;subst q;exact c rfl),mc]
theorem ykq {a:Ar 10} {i:Nat} (ha:zac a=true) (hi:i<160):zac (a.set ((i / 16:Nat):Int) (zht .i64 (gx a.l ((i / 16:Nat):Int)) ((2 ^ (15 - i % 16):Nat):Int)))=true/\∀ j,j<160->hbit (a.set ((i / 16:Nat):Int) (zht .i64 (gx a.l ((i / 16:Nat):Int)) ((2 ^ (15 - i % 16):Nat):Int))) j=(!decide (j=i) && hbit a j):=by
  obtain ⟨a1,a2⟩:=zbg ha (show i / 16<10 by omega);have h2:=yaw (i:=i);rw [a1,zut (by omega) (by omega)];obtain ⟨r1,r2⟩:=z5v ha hi (w:=hw a (i / 16) - (hw a (i / 16) &&& 2 ^ (15 - i % 16))) (by omega);refine ⟨r1,fun j hj=>?_⟩;rw [r2 j hj];by_cases c:j / 16=i / 16
  . rw [zAc c,zs8 (by omega) (by omega),zwf,<- c,Bool.and_comm];congr 2;exact decide_eq_decide.2 (by omega)
  . rw [zAd c,zAb (by intro q;subst q;exact c rfl),ik,jx]
theorem yoo {k i:Nat} (hi:i<160):zg4 k (i:Int)=some ((2 ^ (15 - i % 16):Nat):Int):=by
  have e:fh.wrap (15 - ((i:Int) % 16))=((15 - i % 16:Nat):Int):=by rw [wr64 (by omega)];omega
  unfold zg4;rw [zAc ⟨by omega,by decide⟩,e,zAc (by omega)];have h2:=yaw (i:=i);unfold iShl
  have e2:min ((15 - i % 16:Nat):Int).toNat fh.bits=15 - i % 16:=by
    have:fh.bits=64:=rfl;rw [this];omega
  rw [e2,Int.one_mul,show ((2:Int) ^ (15 - i % 16))=((2 ^ (15 - i % 16):Nat):Int) by push_cast;rfl];generalize 2 ^ (15 - i % 16)=w at h2 ⊢;rw [wr64 (by omega)]
structure zyj (p:Pat) (i:Nat) (b:Bool) (r:Pat):Prop where
  mask:zac r.mask=true
  bits:zac r.bits=true
  hm:∀ j,j<160->hbit r.mask j=(decide (j=i) || hbit p.mask j)
  hb:∀ j,j<160->hbit r.bits j=if j=i then b else hbit p.bits j
theorem z8v {k i:Nat} {p:Pat} {b:Bool} (hp:zaf p=true) (hi:i<160):∃ r,zim k p (i:Int) (b.toNat:Int)=some r/\zyj p i b r:=by
  obtain ⟨pm,pb,_⟩:=zah.1 hp;have hw16:fh.wrap ((i:Int) / 16)=((i / 16:Nat):Int):=zyo hi;have hi10:i / 16<10:=by omega
  unfold zim;rw [zAc ⟨by omega,by decide⟩,hw16,zAc ⟨by omega,by omega⟩,yoo hi,fe,fe];obtain ⟨m1,m2⟩:=yn0 pm hi;obtain ⟨c1,c2⟩:=ykq pb hi
  cases b with
  |false =>
    rw [zAd (by decide)];exact ⟨_,rfl,m1,c1,m2,fun j hj=>by rw [c2 j hj];by_cases q:j=i<;>simp [q]⟩
  |true =>
    rw [zAc (by decide),fe];obtain ⟨o1,o2⟩:=yn0 c1 hi;exact ⟨_,rfl,m1,o1,m2,fun j hj=>by rw [o2 j hj,c2 j hj];by_cases q:j=i<;>simp [q]⟩
/-! the first open bit -/
def zfo (a b:Nat):Nat:=(a - (a &&& b)) % 65536
theorem zw4:∀ (l m:List Nat) (i:Nat),l.length=m.length->(zsb i l m=[]/\∀ s,s<l.length->zfo (l.getD s 0) (m.getD s 0)=0)\/∃ s,s<l.length/\(∀ s',s'<s->zfo (l.getD s' 0) (m.getD s' 0)=0)/\zfo (l.getD s 0) (m.getD s 0)≠0/\∃ r,zsb i l m=(16*(i+s)+(15 - ke (zfo (l.getD s 0) (m.getD s 0)))) :: r
  |[],m,i,h=>.inl ⟨by unfold zsb;rfl,fun s hs=>by simp at hs⟩
  |a :: l,[],i,h=>by simp at h
  |a :: l,b :: m,i,h=>by
    have e:zsb i (a :: l) (b :: m)=(zv0 17 (zfo a b)).map (fun x=>16*i+x)++zsb (i+1) l m:=by rw [zsb];rfl
    rw [e];by_cases c:zfo a b=0
    . have e0:zv0 17 (zfo a b)=[]:=by rw [c];rfl
      rw [e0,List.map_nil,ge];rcases zw4 l m (i+1) (by simpa using h) with ⟨h1,h2⟩|⟨s,h1,h2,h3,r,h4⟩
      . refine .inl ⟨h1,fun s hs=>?_⟩
        cases s with
        |zero=>exact c
        |succ s=>exact h2 s (by simpa using hs)
      . refine .inr ⟨s+1,by simpa using h1,fun s' hs'=>?_,h3,r,?_⟩
        . cases s' with
          |zero=>exact c
          |succ s'=>exact h2 s' (by omega)
        . rw [h4,List.getD_cons_succ,List.getD_cons_succ,show i+1+s=i+(s+1) by omega]
    . have e0:zv0 17 (zfo a b)=(15 - ke (zfo a b)) :: zv0 16 (zfo a b - 2 ^ ke (zfo a b)):=by rw [zv0,zAd c]
      rw [e0];exact .inr ⟨0,by simp,fun s' hs'=>by omega,c,_,rfl⟩
theorem z9l {a b t:Nat} (ha:a<65536) (hb:b<65536) (ht:t<16):(zfo a b).testBit t=(a.testBit t && !b.testBit t):=by
  unfold zfo;rw [Nat.mod_eq_of_lt (by omega),zs8 (by omega) (by omega)]
theorem z17 {a:Ar 10} {s:Nat} (hs:s<10):(zgv a).getD s 0=hw a s:=by
  unfold zgv hw;rw [zi8,fo,fo,List.getElem?_map]
  cases h:a.l[s]? with
  |none=>rw [List.getElem?_eq_none_iff] at h;have:=a.h;omega
  |some x=>rfl
def zh4 (q p:Pat) (i:Nat):Bool:=hbit q.mask i && !hbit p.mask i
theorem z9n {q p:Pat} (hq:zac q.mask=true) (hp:zac p.mask=true):(z9o q.mask p.mask=[]/\∀ i,i<160->zh4 q p i=false)\/∃ x r,z9o q.mask p.mask=x :: r/\x<160/\zh4 q p x=true/\∀ i,i<x->zh4 q p i=false:=by
  have hl:∀ a:Ar 10,(zgv a).length=10:=fun a=>by unfold zgv;rw [fq,a.h]
  have hW:∀ s,s<10->zfo ((zgv q.mask).getD s 0) ((zgv p.mask).getD s 0)=zfo (hw q.mask s) (hw p.mask s):=fun s hs=>by rw [z17 hs,z17 hs]
  have bit:∀ i,i<160->zh4 q p i=(zfo (hw q.mask (i / 16)) (hw p.mask (i / 16))).testBit (15 - i % 16):=fun i hi=>by
    rw [z9l (zbg hq (by omega)).2 (zbg hp (by omega)).2 (by omega)];rfl
  have zero:∀ s,s<10->zfo ((zgv q.mask).getD s 0) ((zgv p.mask).getD s 0)=0->∀ i,i<160->i / 16=s->zh4 q p i=false:=fun s hs h0 i hi e=>by
    rw [bit i hi,e,<- hW s hs,h0,oh]
  rcases zw4 (zgv q.mask) (zgv p.mask) 0 (by rw [hl,hl]) with ⟨h1,h2⟩|⟨s,h1,h2,h3,r,h4⟩
  . refine .inl ⟨h1,fun i hi=>zero (i / 16) (by omega) (h2 _ (by rw [hl];omega)) i hi rfl⟩
  . rw [hl] at h1;rw [hW s h1] at h3 h4;have hlt:zfo (hw q.mask s) (hw p.mask s)<65536:=Nat.mod_lt _ (by decide);have hlog:ke (zfo (hw q.mask s) (hw p.mask s))<16:=(Nat.log2_lt h3).2 hlt;have htop:(zfo (hw q.mask s) (hw p.mask s)).testBit (ke (zfo (hw q.mask s) (hw p.mask s)))=true:=Nat.testBit_log2 h3;have hup:∀ t,ke (zfo (hw q.mask s) (hw p.mask s))<t->(zfo (hw q.mask s) (hw p.mask s)).testBit t=false:=fun t ht=>mn (gq (Nat.lt_log2_self) (lw (by decide) ht));generalize ke (zfo (hw q.mask s) (hw p.mask s))=g at *;refine .inr ⟨16*(0+s)+(15 - g),r,h4,by omega,?_,fun i hi=>?_⟩
    . rw [bit _ (by omega),show (16*(0+s)+(15 - g)) / 16=s by omega,show 15 - (16*(0+s)+(15 - g)) % 16=g by omega];exact htop
    . by_cases c:i / 16=s
      . rw [bit i (by omega),c];exact hup _ (by omega)
      . exact zero (i / 16) (by omega) (h2 _ (by omega)) i (by omega) rfl
theorem yc9 {a:Ar 10} (h:zac a=true):natM a:=by
  intro x hx;unfold zac at h;have:=h9.1 h x hx;unfold zw0 at this;have:=zAe this;omega
def ltH (a b:Ar 10):Prop:=∃ i,i<160/\(∀ j,j<i->hbit a j=hbit b j)/\hbit a i=false/\hbit b i=true
structure Out (p:Pat) (l:List Pat) (h:Ar 10):Prop where
  right:zac h=true
  into:zaq p h=true
  no:∀ q,q∈l->zaq q h=false
structure zvl (p:Pat) (l:List Pat) (h:Ar 10):Prop where
  out:Out p l h
  least:∀ h',Out p l h'->¬ ltH h' h
def Res (p:Pat) (l:List Pat) (r:Ar 10×Bool):Prop:=(r.2=true/\zvl p l r.1)\/(r=(zA 10,false)/\∀ h,¬ Out p l h)
theorem zsp {a b:Ar 10} (ha:zac a=true) (hb:zac b=true):a=b\/ltH a b\/ltH b a:=by
  by_cases h:∃ i,i<160/\hbit a i≠hbit b i
  . right
    have key:∀ n,(∃ i,i<n/\hbit a i≠hbit b i)->∃ i,i<n/\(∀ j,j<i->hbit a j=hbit b j)/\hbit a i≠hbit b i:=by
      intro n
      induction n with
      |zero=>rintro ⟨i,hi,_⟩;omega
      |succ n ih =>
        rintro ⟨i,hi,hd⟩;by_cases h2:∃ i,i<n/\hbit a i≠hbit b i
        . obtain ⟨j,h3,h4,h5⟩:=ih h2;exact ⟨j,by omega,h4,h5⟩
        . refine ⟨i,hi,fun j hj=>?_,hd⟩;by_cases e:hbit a j=hbit b j
          . exact e
          . exact absurd ⟨j,by omega,e⟩ h2
    obtain ⟨i,h1,h2,h3⟩:=key 160 h
    cases e1:hbit a i with
    |false =>
      cases e2:hbit b i with
      |false=>rw [e1,e2] at h3;exact absurd rfl h3
      |true=>exact .inl ⟨i,h1,h2,e1,e2⟩
    |true =>
      cases e2:hbit b i with
      |true=>rw [e1,e2] at h3;exact absurd rfl h3
      |false=>exact .inr ⟨i,h1,fun j hj=>(h2 j hj).symm,e2,e1⟩
  . left
    exact zn8 ha hb fun i hi=>by
      by_cases e:hbit a i=hbit b i
      . exact e
      . exact absurd ⟨i,hi,e⟩ h
theorem zvl.uniq {p:Pat} {l:List Pat} {a b:Ar 10} (ha:zvl p l a) (hb:zvl p l b):a=b:=by
  rcases zsp ha.out.right hb.out.right with h|h|h
  . exact h
  . exact absurd h (hb.least _ ha.out)
  . exact absurd h (ha.least _ hb.out)
theorem Res.uniq {p:Pat} {l:List Pat} {r s:Ar 10×Bool} (hr:Res p l r) (hs:Res p l s):r=s:=by
  obtain ⟨r1,r2⟩:=r;obtain ⟨s1,s2⟩:=s;rcases hr with ⟨h1,h2⟩|⟨h1,h2⟩
  . rcases hs with ⟨h3,h4⟩|⟨h3,h4⟩
    . simp only at h1 h2 h3 h4;rw [h1,h3,h2.uniq h4]
    . exact absurd h2.out (h4 _)
  . rcases hs with ⟨h3,h4⟩|⟨h3,h4⟩
    . exact absurd h4.out (h2 _)
    . rw [h1,h3]
theorem zt5 {p q:Pat} {h:Ar 10} (hp:zaq p h=true) (hq:zaq q h=true):zdk p q=true :=
  ziq.2 fun i hi h1 h2=>by rw [zas.1 hp i hi h1,zas.1 hq i hi h2]
theorem zjy {p r:Pat} {i:Nat} {b:Bool} {h:Ar 10} (hi:i<160) (hpi:hbit p.mask i=false) (hf:zyj p i b r):zaq r h=true↔zaq p h=true/\hbit h i=b:=by
  rw [zas,zas];constructor
  . intro hm;refine ⟨fun j hj h1=>?_,?_⟩
    . have hne:j≠i:=by intro e;rw [e,hpi] at h1;cases h1
      have:=hm j hj (by rw [hf.hm j hj,h1];simp);rw [hf.hb j hj,zAd hne] at this;exact this
    . have:=hm i hi (by rw [hf.hm i hi];simp);rw [hf.hb i hi,zAc rfl] at this;exact this.symm
  . rintro ⟨hm,hb⟩ j hj h1;rw [hf.hb j hj];by_cases e:j=i
    . rw [zAc e,e,hb]
    . rw [zAd e];rw [hf.hm j hj,zAb e,mc] at h1;exact hm j hj h1
theorem z2s {p r:Pat} {i:Nat} {b:Bool} (hp:zaf p=true) (hf:zyj p i b r):zaf r=true:=by
  refine zah.2 ⟨hf.mask,hf.bits,fun j hj h1=>?_⟩;rw [hf.hm j hj];by_cases e:j=i
  . simp [e]
  . rw [hf.hb j hj,zAd e] at h1;rw [(zah.1 hp).2.2 j hj h1];simp
theorem zxi {p:Pat} {l:List Pat} (hp:zaf p=true) (hn:∀ q,q∈l->zdk p q=false):zvl p l p.bits:=by
  obtain ⟨pm,pb,pw⟩:=zah.1 hp;have hself:zaq p p.bits=true:=zas.2 fun i _ _=>rfl;refine ⟨⟨pb,hself,fun q hq=>?_⟩,fun h' ho=>?_⟩
  . cases hm:zaq q p.bits with
    |false=>rfl
    |true=>have:=zt5 hself hm;rw [hn q hq] at this;cases this
  . rintro ⟨i,hi,_,h1,h2⟩;have:=zas.1 ho.into i hi (pw i hi h2);rw [h1,h2] at this;cases this
theorem Out.near {p:Pat} {l:List Pat} {h:Ar 10}:Out p l h↔Out p (l.filter (zdk p)) h:=by
  constructor
  . exact fun ⟨a,b,c⟩=>⟨a,b,fun q hq=>c q (ox.1 hq).1⟩
  . refine fun ⟨a,b,c⟩=>⟨a,b,fun q hq=>?_⟩
    cases hm:zaq q h with
    |false=>rfl
    |true =>
      have:=c q (ox.2 ⟨hq,zt5 b hm⟩);rw [hm] at this;cases this
theorem Res.join {p p0 p1:Pat} {l:List Pat} {i:Nat} {r0 r1:Ar 10×Bool} (hi:i<160) (hpi:hbit p.mask i=false) (h0:zyj p i false p0) (h1:zyj p i true p1)
    (ho:∀ q,q∈l->∀ j,j<i->zh4 q p j=false) (k0:Res p0 l r0) (k1:r0.2=false->Res p1 l r1):Res p l (if r0.2=true then (r0.1,true) else (r1.1,r1.2)):=by
  rcases k0 with ⟨a,b⟩|⟨a,b⟩
  . rw [zAc a];refine .inl ⟨rfl,⟨⟨b.out.right,((zjy hi hpi h0).1 b.out.into).1,b.out.no⟩,fun h' ho'=>?_⟩⟩;obtain ⟨bm,bi⟩:=(zjy hi hpi h0).1 b.out.into;rintro ⟨j,hj,e1,e2,e3⟩
    cases hb:hbit h' i with
    |false=>exact b.least h' ⟨ho'.right,(zjy hi hpi h0).2 ⟨ho'.into,hb⟩,ho'.no⟩ ⟨j,hj,e1,e2,e3⟩
    |true =>
      by_cases c1:j=i
      . subst c1;rw [bi] at e3;cases e3
      . by_cases c2:i<j
        . have:=e1 i c2;rw [hb,bi] at this;cases this
        . have hji:j<i:=by omega
          have hpj:hbit p.mask j=false:=by
            cases hm:hbit p.mask j with
            |false=>rfl
            |true =>
              have x1:=zas.1 ho'.into j hj hm;have x2:=zas.1 bm j hj hm;rw [x1,e2] at x2;rw [e3] at x2;cases x2
          obtain ⟨c3,c4⟩:=ykq b.out.right hj;generalize r0.1.set ((j / 16:Nat):Int) _=h2 at c3 c4;refine b.least h2 ⟨c3,?_,fun q hq=>?_⟩ ⟨j,hj,fun s hs=>?_,?_,e3⟩
          . refine (zjy hi hpi h0).2 ⟨zas.2 fun s hs hm=>?_,?_⟩
            . have hne:s≠j:=by intro e;rw [e,hpj] at hm;cases hm
              rw [c4 s hs,zAb hne,ik,jx];exact zas.1 bm s hs hm
            . rw [c4 i hi,zAb (by omega),ik,jx];exact bi
          . have hqj:hbit q.mask j=false:=by
              have:=ho q hq j hji;unfold zh4 at this;rw [hpj] at this;simpa using this
            cases hm:zaq q h2 with
            |false=>rfl
            |true =>
              have:zaq q r0.1=true:=zas.2 fun s hs hms=>by
                have hne:s≠j:=by intro e;rw [e,hqj] at hms;cases hms
                have x:=zas.1 hm s hs hms;rw [c4 s hs,zAb hne,ik,jx] at x;exact x
              rw [b.out.no q hq] at this;cases this
          . rw [c4 s (by omega),zAb (by omega),ik,jx]
          . rw [c4 j hj];simp
  . subst a;rw [zAd (by simp)];have k:=k1 rfl
    have split:∀ h,Out p l h->Out p1 l h:=fun h ho'=>by
      cases hb:hbit h i with
      |false=>exact absurd ⟨ho'.right,(zjy hi hpi h0).2 ⟨ho'.into,hb⟩,ho'.no⟩ (b h)
      |true=>exact ⟨ho'.right,(zjy hi hpi h1).2 ⟨ho'.into,hb⟩,ho'.no⟩
    rcases k with ⟨c,d⟩|⟨c,d⟩
    . exact .inl ⟨c,⟨⟨d.out.right,((zjy hi hpi h1).1 d.out.into).1,d.out.no⟩,fun h' ho'=>d.least h' (split h' ho')⟩⟩
    . exact .inr ⟨by rw [c],fun h ho'=>d h (split h ho')⟩
theorem z7a {P:Nat->Prop}:∀ n,(∃ i,i<n/\P i)->∃ i,i<n/\P i/\∀ j,j<i->¬ P j
  |0,⟨i,hi,_⟩=>by omega
  |n+1,⟨i,hi,hp⟩=>by
    by_cases h:∃ i,i<n/\P i
    . obtain ⟨j,h1,h2,h3⟩:=z7a n h;exact ⟨j,by omega,h2,h3⟩
    . exact ⟨i,hi,hp,fun j hj hpj=>h ⟨j,by omega,hpj⟩⟩
theorem z82 {a b:Nat} (ha:a<65536) (hb:b<65536) (h:a≠b):∃ t,t<16/\(∀ s,t<s->a.testBit s=b.testBit s)/\a.testBit t≠b.testBit t:=by
  have hex:∃ u,u<16/\a.testBit (15 - u)≠b.testBit (15 - u):=by
    refine js fun hn=>h (zsd ha hb fun t ht=>?_);refine js fun hd=>hn ⟨15 - t,by omega,?_⟩;rw [show 15 - (15 - t)=t by omega];exact hd
  obtain ⟨u,h1,h2,h3⟩:=z7a 16 hex;refine ⟨15 - u,by omega,fun s hs=>?_,h2⟩;by_cases hs16:s<16
  . have:=h3 (15 - s) (by omega);rw [show 15 - (15 - s)=s by omega] at this;exact js this
  . have e:65536<=2 ^ s:=lw (n:=2) (by decide) (show 16<=s by omega);rw [mn (gq ha e),mn (gq hb e)]
theorem z9s {a b t:Nat} (ha:a.testBit t=false) (hb:b.testBit t=true) (hs:∀ s,t<s->a.testBit s=b.testBit s):a<b:=by
  have e:a / 2 ^ (t+1)=b / 2 ^ (t+1):=by
    apply ny;intro i;rw [Nat.testBit_div_two_pow,Nat.testBit_div_two_pow];exact hs _ (by omega)
  rw [sm,<- Nat.div_div_eq_div_mul,<- Nat.div_div_eq_div_mul] at e;rw [Nat.testBit_eq_decide_div_mod_eq] at ha hb;have ha':=of_decide_eq_false ha;have hb':=zAe hb;apply Nat.lt_of_not_le;intro h;have:=Nat.div_le_div_right (c:=2 ^ t) h;omega
theorem zpw {a b:Ar 10} (ha:zac a=true) (hb:zac b=true) {j:Nat} (hj:j<10) (he:∀ i,i<j->hw a i=hw b i) (hl:hw a j<hw b j):ltH a b:=by
  obtain ⟨t,h1,h2,h3⟩:=z82 (zbg ha hj).2 (zbg hb hj).2 (by omega)
  have hat:(hw a j).testBit t=false/\(hw b j).testBit t=true:=by
    cases e1:(hw a j).testBit t with
    |false =>
      cases e2:(hw b j).testBit t with
      |false=>rw [e1,e2] at h3;exact absurd rfl h3
      |true=>exact ⟨rfl,rfl⟩
    |true =>
      cases e2:(hw b j).testBit t with
      |true=>rw [e1,e2] at h3;exact absurd rfl h3
      |false =>
        have:=z9s e2 e1 fun s hs=>(h2 s hs).symm;omega
  refine ⟨16*j+(15 - t),by omega,fun s hs=>?_,?_,?_⟩
  . unfold hbit;by_cases c:s / 16=j
    . rw [c];exact h2 _ (by omega)
    . rw [he (s / 16) (by omega)]
  . rw [zkr a hj h1];exact hat.1
  . rw [zkr b hj h1];exact hat.2
theorem zn5 {a:Ar 10}:¬ ltH a a:=by
  rintro ⟨i,_,_,h1,h2⟩;rw [h1] at h2;cases h2
theorem z19 {a b:Ar 10} (h:ltH a b):¬ ltH b a:=by
  obtain ⟨i,h1,h2,h3,h4⟩:=h;rintro ⟨j,k1,k2,k3,k4⟩;rcases nr i j with c|c|c
  . have:=k2 i c;rw [h3,h4] at this;cases this
  . subst c;rw [h3] at k4;cases k4
  . have:=h2 j c;rw [k3,k4] at this;cases this
theorem zpx {a b c:Ar 10} (h:ltH a b) (k:ltH b c):ltH a c:=by
  obtain ⟨i,h1,h2,h3,h4⟩:=h;obtain ⟨j,k1,k2,k3,k4⟩:=k;rcases nr i j with e|e|e
  . exact ⟨i,h1,fun s hs=>by rw [h2 s hs,k2 s (by omega)],h3,by rw [<- k2 i e];exact h4⟩
  . subst e;rw [h4] at k3;cases k3
  . exact ⟨j,k1,fun s hs=>by rw [h2 s (by omega),k2 s hs],by rw [h2 j e];exact k3,k4⟩
def Cmp (a b:Ar 10) (c:Int):Prop:=(c=-1/\ltH a b)\/(c=1/\ltH b a)\/(c=0/\a=b)
theorem Cmp.neg {a b:Ar 10} {c:Int} (h:Cmp a b c):c<0↔ltH a b:=by
  rcases h with ⟨rfl,h⟩|⟨rfl,h⟩|⟨rfl,rfl⟩
  . exact ⟨fun _=>h,fun _=>by decide⟩
  . exact ⟨fun q=>absurd q (by decide),fun q=>absurd q (z19 h)⟩
  . exact ⟨fun q=>absurd q (by decide),fun q=>absurd q zn5⟩
theorem Cmp.pos {a b:Ar 10} {c:Int} (h:Cmp a b c):0<c↔ltH b a:=by
  rcases h with ⟨rfl,h⟩|⟨rfl,h⟩|⟨rfl,rfl⟩
  . exact ⟨fun q=>absurd q (by decide),fun q=>absurd q (z19 h)⟩
  . exact ⟨fun _=>h,fun _=>by decide⟩
  . exact ⟨fun q=>absurd q (by decide),fun q=>absurd q zn5⟩
theorem zme {k:Nat} {a b:Ar 10} (ha:zac a=true) (hb:zac b=true) (hk:10<k):∃ c,zde k a b=some c/\Cmp a b c:=by
  have key:∀ m j,j<=10->10 - j<m->(∀ i,i<j->hw a i=hw b i)->∃ o,zbk k a b m (j:Int)=some o/\((∃ c,o=.inl c/\Cmp a b c)\/(o=.inr ()/\a=b)):=by
    intro m
    induction m with
    |zero=>intro j h1 h2;omega
    |succ m ih =>
      intro j h1 h2 h3;rw [zbk];by_cases c:j<10
      . obtain ⟨a1,a2⟩:=zbg ha c;obtain ⟨b1,b2⟩:=zbg hb c;rw [zAc (lt10 c),zAc ⟨by omega,lt10 c⟩,a1,b1,za4 j (by omega)];by_cases c1:hw a j<hw b j
        . rw [zAc (zan c1)];exact ⟨_,rfl,.inl ⟨_,rfl,.inl ⟨rfl,zpw ha hb c h3 c1⟩⟩⟩
        . rw [zAd (by omega)];by_cases c2:hw b j<hw a j
          . rw [zAc (zan c2)];exact ⟨_,rfl,.inl ⟨_,rfl,.inr (.inl ⟨rfl,zpw hb ha c (fun i hi=>(h3 i hi).symm) c2⟩)⟩⟩
          . rw [zAd (by omega)]
            exact ih (j+1) (by omega) (by omega) fun i hi=>by
              by_cases e:i<j
              . exact h3 i e
              . obtain rfl:i=j:=by omega
                omega
      . obtain rfl:j=10:=by omega
        rw [zAd (by decide)];refine ⟨_,rfl,.inr ⟨rfl,zn8 ha hb fun i hi=>?_⟩⟩;unfold hbit;rw [h3 (i / 16) (by omega)]
  obtain ⟨o,e,h⟩:=key k 0 (by omega) (by omega) (fun i hi=>by omega);unfold zde;rw [show ((0:Nat):Int)=0 from rfl] at e;rw [e,fe];rcases h with ⟨c,rfl,h⟩|⟨rfl,h⟩
  . exact ⟨c,rfl,h⟩
  . exact ⟨0,rfl,.inr (.inr ⟨rfl,h⟩)⟩
structure Meet (p q r:Pat):Prop where
  mask:zac r.mask=true
  bits:zac r.bits=true
  hm:∀ j,j<160->hbit r.mask j=(hbit p.mask j || hbit q.mask j)
  hb:∀ j,j<160->hbit r.bits j=if hbit q.mask j=true then hbit q.bits j else hbit p.bits j
theorem zqn {a:Bool}:((a.toNat:Int)=0)↔a=false:=by cases a<;>decide
structure AndI (p q:Pat) (i:Nat) (x y:Ar 10):Prop where
  rx:zac x=true
  ry:zac y=true
  hx:∀ j,j<160->hbit x j=(hbit p.mask j || (decide (j<i) && hbit q.mask j))
  hy:∀ j,j<160->hbit y j=if (decide (j<i) && hbit q.mask j)=true then hbit q.bits j else hbit p.bits j
  ok:∀ j,j<i->hbit p.mask j=true->hbit q.mask j=true->hbit p.bits j=hbit q.bits j
theorem yck {k:Nat} {p q:Pat} (hp:zaf p=true) (hq:zaf q=true) (hk:160<k):∃ r,znw k p q=some r/\((zdk p q=false/\r.2=false)\/(zdk p q=true/\r.2=true/\Meet p q r.1)):=by
  obtain ⟨pm,pb,pw⟩:=zah.1 hp;obtain ⟨qm,qb,qw⟩:=zah.1 hq
  have key:∀ m i x y,i<=160->160 - i<m->AndI p q i x y->∃ o,zfs k q m (i:Int) x y=some o/\((∃ r,o=.inl r/\r.2=false/\zdk p q=false)\/∃ x y,o=.inr (x,y)/\AndI p q 160 x y):=by
    intro m
    induction m with
    |zero=>intro i x y h1 h2;omega
    |succ m ih =>
      intro i x y h1 h2 hI;rw [zfs];by_cases c:i<160
      . rw [zAc (ydf c),zgi qm c (by omega),fe,za4 i (by omega)];by_cases c1:hbit q.mask i=false
        . rw [zAc (zqn.2 c1)]
          have hd:∀ j,(decide (j<i+1) && hbit q.mask j)=(decide (j<i) && hbit q.mask j):=fun j=>by
            by_cases e:j=i
            . subst e;rw [c1];simp
            . rw [show decide (j<i+1)=decide (j<i) from decide_eq_decide.2 (by omega)]
          refine ih (i+1) x y (by omega) (by omega) ⟨hI.rx,hI.ry,fun j hj=>by rw [hd,hI.hx j hj],fun j hj=>by rw [hd,hI.hy j hj],fun j hj h3 h4=>?_⟩;by_cases e:j=i
          . rw [e,c1] at h4;cases h4
          . exact hI.ok j (by omega) h3 h4
        . have c1':hbit q.mask i=true:=by simpa using c1
          have xi:hbit x i=hbit p.mask i:=by rw [hI.hx i c];simp
          have yi:hbit y i=hbit p.bits i:=by rw [hI.hy i c,zAd (by simp)]
          rw [zAd (fun h=>c1 (zqn.1 h)),zgi hI.rx c (by omega),fe,zgi hI.ry c (by omega),fe,zgi qb c (by omega),fe,xi,yi];by_cases c2:hbit p.mask i=true/\hbit p.bits i≠hbit q.bits i
          . rw [zAc (zl5.2 c2.1),fe,zAc (zAa (z0e.2 c2.2))];refine ⟨_,rfl,.inl ⟨_,rfl,rfl,?_⟩⟩
            cases ho:zdk p q with
            |false=>rfl
            |true=>exact absurd (ziq.1 ho i c c2.1 c1') c2.2
          . have e2:(if ((hbit p.mask i).toNat:Int)=1 then some (decide (((hbit p.bits i).toNat:Int)≠((hbit q.bits i).toNat:Int))) else some false)=some false:=by
              by_cases c3:hbit p.mask i=true
              . have:hbit p.bits i=hbit q.bits i:=js fun h=>c2 ⟨c3,h⟩;rw [zAc (zl5.2 c3),zAb (fun h=>(z0e.1 h) this)]
              . rw [zAd (fun h=>c3 (zl5.1 h))]
            rw [e2,fe,zAd (by simp)];obtain ⟨x2,s1,s2,s3⟩:=zj7 (k:=k) (b:=true) hI.rx c (by omega);obtain ⟨y2,t1,t2,t3⟩:=zj7 (k:=k) (b:=hbit q.bits i) hI.ry c (by omega);have s1':zfl k x (i:Int) 1=some x2:=s1;rw [s1',fe,fe,t1,fe];refine ih (i+1) x2 y2 (by omega) (by omega) ⟨s2,t2,fun j hj=>?_,fun j hj=>?_,fun j hj h3 h4=>?_⟩
            . rw [s3 j hj];by_cases e:j=i
              . subst e;rw [zAc rfl,c1'];simp
              . rw [zAd e,hI.hx j hj,show decide (j<i+1)=decide (j<i) from decide_eq_decide.2 (by omega)]
            . rw [t3 j hj];by_cases e:j=i
              . subst e;rw [zAc rfl,c1',zAc (by simp)]
              . rw [zAd e,hI.hy j hj,show decide (j<i+1)=decide (j<i) from decide_eq_decide.2 (by omega)]
            . by_cases e:j=i
              . subst e;exact js fun h=>c2 ⟨h3,h⟩
              . exact hI.ok j (by omega) h3 h4
      . obtain rfl:i=160:=by omega
        rw [zAd (by decide)];exact ⟨_,rfl,.inr ⟨x,y,rfl,hI⟩⟩
  obtain ⟨o,e,h⟩:=key k 0 p.mask p.bits (by omega) (by omega) ⟨pm,pb,fun j hj=>by simp,fun j hj=>by simp,fun j hj=>by omega⟩;unfold znw;rw [show ((0:Nat):Int)=0 from rfl] at e;rw [e,fe];rcases h with ⟨r,rfl,h1,h2⟩|⟨x,y,rfl,hI⟩
  . exact ⟨r,rfl,.inl ⟨h2,h1⟩⟩
  . refine ⟨_,rfl,.inr ⟨ziq.2 fun i hi=>hI.ok i hi,rfl,hI.rx,hI.ry,fun j hj=>?_,fun j hj=>?_⟩⟩
    . rw [hI.hx j hj];simp [hj]
    . rw [hI.hy j hj];simp [hj]
theorem z4i {k:Nat} {p q:Pat} (hp:zaf p=true) (hq:zaf q=true) (hk:160<k):zik k p q=some (zdk p q):=by
  obtain ⟨r,e,h⟩:=yck hp hq hk;unfold zik;rw [e,fe];rcases h with ⟨h1,h2⟩|⟨h1,h2,_⟩<;>rw [h1,h2]
def yai (q:Pat) (i:Nat) (h:Ar 10):Prop:=∀ j,j<i->hbit q.mask j=true->hbit h j=hbit q.bits j
def Part (p q:Pat) (i:Nat) (r:Pat):Prop:=∀ h,zaq r h=true↔zaq p h=true/\yai q i h/\hbit h i≠hbit q.bits i
theorem z4u {p q:Pat} {i:Nat} {x y h:Ar 10} (hI:AndI p q i x y) (hi:i<=160):(∀ j,j<160->hbit x j=true->hbit y j=hbit h j)↔zaq p h=true/\yai q i h:=by
  rw [zas];constructor
  . intro hm
    have ag:yai q i h:=fun j hj h1=>by
      have:=hm j (by omega) (by rw [hI.hx j (by omega),h1];simp [hj]);rw [hI.hy j (by omega),zAc (by simp [hj,h1])] at this;exact this.symm
    refine ⟨fun j hj h1=>?_,ag⟩;by_cases c:j<i/\hbit q.mask j=true
    . rw [hI.ok j c.1 h1 c.2];exact (ag j c.1 c.2).symm
    . have:=hm j hj (by rw [hI.hx j hj,h1];rfl);rw [hI.hy j hj,zAd (by simp only [fi,decide_eq_true_eq];exact c)] at this;exact this
  . rintro ⟨hm,ag⟩ j hj h1;rw [hI.hy j hj];by_cases c:j<i/\hbit q.mask j=true
    . rw [zAc (by simp [c.1,c.2])];exact (ag j c.1 c.2).symm
    . rw [zAd (by simp only [fi,decide_eq_true_eq];exact c)];rw [hI.hx j hj] at h1;refine hm j hj ?_;rcases Bool.or_eq_true _ _ |>.mp h1 with h2|h2
      . exact h2
      . simp only [fi,decide_eq_true_eq] at h2;exact absurd h2 c
structure yht (p q:Pat) (i:Nat) (l:List Pat):Prop where
  len:l.length<=i
  right:∀ r,r∈l->zaf r=true
  mask:∀ r,r∈l->∀ j,j<160->hbit r.mask j=true->hbit p.mask j=true\/hbit q.mask j=true
  part:∀ r,r∈l->∃ j,j<i/\hbit q.mask j=true/\Part p q j r
  all:∀ h,zaq p h=true->¬ yai q i h->∃ r,r∈l/\zaq r h=true
  apart:l.Pairwise fun r s=>∀ h,¬ (zaq r h=true/\zaq s h=true)
theorem yhx {k:Nat} {p q:Pat} (hp:zaf p=true) (hq:zaf q=true) (hk:160<k):∀ m i x y l,i<=160->160 - i<m->AndI p q i x y->(∀ j,i<=j->j<160->hbit p.mask j=true->hbit q.mask j=true->hbit p.bits j=hbit q.bits j)->yht p q i l ->
    ∃ x' y' l',zdy k q m (i:Int) x y l l.length=some (x',y',l',l'.length)/\yht p q 160 l':=by
  obtain ⟨pm,pb,pw⟩:=zah.1 hp;obtain ⟨qm,qb,qw⟩:=zah.1 hq;intro m
  induction m with
  |zero=>intro i x y l h1 h2;omega
  |succ m ih =>
    intro i x y l h1 h2 hI hov hP;rw [zdy];by_cases c:i<160
    . rw [zAc (ydf c),zgi qm c (by omega),fe,za4 i (by omega)];have xi:hbit x i=hbit p.mask i:=by rw [hI.hx i c];simp
      have yi:hbit y i=hbit p.bits i:=by rw [hI.hy i c,zAd (by simp)]
      -- one bit further without a new part
      have stay:(hbit q.mask i=true->hbit p.mask i=true)->∀ x2 y2,(∀ j,j<160->hbit x2 j=hbit x j)->(∀ j,j<160->hbit y2 j=hbit y j)->zac x2=true->zac y2=true->AndI p q (i+1) x2 y2/\yht p q (i+1) l:=fun hqp x2 y2 hx2 hy2 r1 r2=>by
        refine ⟨⟨r1,r2,fun j hj=>?_,fun j hj=>?_,fun j hj h3 h4=>?_⟩,⟨Nat.le_succ_of_le hP.len,hP.right,hP.mask,fun r hr=>?_,fun h hm hn=>?_,hP.apart⟩⟩
        . rw [hx2 j hj,hI.hx j hj];by_cases e:j=i
          . subst e
            cases hqi:hbit q.mask j with
            |false=>simp
            |true=>rw [hqp hqi];rfl
          . rw [show decide (j<i+1)=decide (j<i) from decide_eq_decide.2 (by omega)]
        . rw [hy2 j hj,hI.hy j hj];by_cases e:j=i
          . subst e;rw [zAd (by simp)]
            cases hqi:hbit q.mask j with
            |false=>rw [zAd (by simp)]
            |true=>rw [zAc (by simp)];exact hov j (fm _) hj (hqp hqi) hqi
          . rw [show decide (j<i+1)=decide (j<i) from decide_eq_decide.2 (by omega)]
        . by_cases e:j=i
          . subst e;exact hov j (fm _) c h3 h4
          . exact hI.ok j (by omega) h3 h4
        . obtain ⟨j,q1,q2,q3⟩:=hP.part r hr;exact ⟨j,by omega,q2,q3⟩
        . refine hP.all h hm fun ag=>hn fun j hj hmj=>?_;by_cases e:j=i
          . subst e;rw [<- zas.1 hm j c (hqp hmj)];exact hov j (fm _) c (hqp hmj) hmj
          . exact ag j (by omega) hmj
      by_cases c1:hbit q.mask i=false
      . rw [zAc (zqn.2 c1),fe,zAc rfl];obtain ⟨a,b⟩:=stay (fun h=>by rw [c1] at h;cases h) x y (fun _ _=>rfl) (fun _ _=>rfl) hI.rx hI.ry;exact ih (i+1) x y l (by omega) (by omega) a (fun j hj=>hov j (by omega)) b
      . have c1':hbit q.mask i=true:=by simpa using c1
        rw [zAd (fun h=>c1 (zqn.1 h)),zgi hI.rx c (by omega),fe,fe,xi];by_cases c2:hbit p.mask i=true
        . rw [zAc (zAa (zl5.2 c2))];obtain ⟨a,b⟩:=stay (fun _=>c2) x y (fun _ _=>rfl) (fun _ _=>rfl) hI.rx hI.ry;exact ih (i+1) x y l (by omega) (by omega) a (fun j hj=>hov j (by omega)) b
        . have c2':hbit p.mask i=false:=by simpa using c2
          rw [zAd (by rw [decide_eq_true_eq];exact fun h=>c2 (zl5.1 h)),zgi qb c (by omega),fe];obtain ⟨x2,s1,s2,s3⟩:=zj7 (k:=k) (b:=true) hI.rx c (by omega);obtain ⟨y2,t1,t2,t3⟩:=zj7 (k:=k) (b:=!hbit q.bits i) hI.ry c (by omega);obtain ⟨y3,u1,u2,u3⟩:=zj7 (k:=k) (b:=hbit q.bits i) t2 c (by omega);have s1':zfl k x (i:Int) 1=some x2:=s1;have ew:fh.wrap (1 - ((hbit q.bits i).toNat:Int))=((!hbit q.bits i).toNat:Int):=by cases hbit q.bits i<;>decide
          have hl160:=hP.len;rw [s1',fe,ew,t1,fe,zAc (by omega),u1,fe]
          have hrp:zaf ⟨x2,y2⟩=true:=zah.2 ⟨s2,t2,fun j hj h1=>by
            show hbit x2 j=true;have h1':hbit y2 j=true:=h1;rw [s3 j hj];rw [t3 j hj] at h1';by_cases e:j=i
            . rw [zAc e]
            . rw [zAd e] at h1' ⊢;rw [hI.hy j hj] at h1';rw [hI.hx j hj];by_cases cq:(decide (j<i) && hbit q.mask j)=true
              . rw [cq];simp
              . rw [zAd cq] at h1'
                rw [pw j hj h1'];rfl⟩
          have hpart:Part p q i ⟨x2,y2⟩:=fun h=>by
            rw [zas,<- and_assoc,<- z4u hI (by omega)];constructor
            . intro hm;refine ⟨fun j hj h1=>?_,?_⟩
              . have hne:j≠i:=by intro e;rw [e,xi,c2'] at h1;cases h1
                have:=hm j hj (show hbit x2 j=true by rw [s3 j hj,zAd hne];exact h1);change hbit y2 j=_ at this;rw [t3 j hj,zAd hne] at this;exact this
              . have:=hm i c (show hbit x2 i=true by rw [s3 i c,zAc rfl]);change hbit y2 i=_ at this;rw [t3 i c,zAc rfl] at this;rw [<- this];cases hbit q.bits i<;>simp
            . rintro ⟨hm,hd⟩ j hj h1;change hbit x2 j=true at h1;show hbit y2 j=hbit h j;rw [t3 j hj];by_cases e:j=i
              . rw [zAc e,e];revert hd;cases hbit q.bits i<;>cases hbit h i<;>simp
              . rw [zAd e];rw [s3 j hj,zAd e] at h1;exact hm j hj h1
          have hA : AndI p q (i + 1) x2 y3 := ⟨s2, u2, fun j hj => by
              rw [s3 j hj];by_cases e:j=i
              . subst e;rw [zAc rfl,c1'];simp
              . rw [zAd e,hI.hx j hj,show decide (j<i+1)=decide (j<i) from decide_eq_decide.2 (by omega)],fun j hj=>by
              rw [u3 j hj];by_cases e:j=i
              . subst e;rw [zAc rfl,c1',zAc (by simp)]
              . rw [zAd e,t3 j hj,zAd e,hI.hy j hj,show decide (j<i+1)=decide (j<i) from decide_eq_decide.2 (by omega)],fun j hj h3 h4=>by
              by_cases e:j=i
              . rw [e,c2'] at h3;cases h3
              . exact hI.ok j (by omega) h3 h4⟩
          have hPs:yht p q (i+1) (l++[⟨x2,y2⟩]):=by
            refine ⟨by rw [fw,ip];omega,fun r hr=>?_,fun r hr j hj h1=>?_,fun r hr=>?_,fun h hm hn=>?_,?_⟩
            . rcases im.1 hr with h|h
              . exact hP.right r h
              . cases gt.1 h;exact hrp
            . rcases im.1 hr with h|h
              . exact hP.mask r h j hj h1
              . cases gt.1 h;change hbit x2 j=true at h1;rw [s3 j hj] at h1;by_cases e:j=i
                . subst e;exact .inr c1'
                . rw [zAd e,hI.hx j hj] at h1;rcases Bool.or_eq_true _ _ |>.mp h1 with h2|h2
                  . exact .inl h2
                  . simp only [fi] at h2;exact .inr h2.2
            . rcases im.1 hr with h|h
              . obtain ⟨j,q1,q2,q3⟩:=hP.part r h;exact ⟨j,by omega,q2,q3⟩
              . cases gt.1 h;exact ⟨i,by omega,c1',hpart⟩
            . by_cases ag:yai q i h
              . refine ⟨_,im.2 (.inr (gt.2 rfl)),(hpart h).2 ⟨hm,ag,fun e=>hn fun j hj hmj=>?_⟩⟩;by_cases e2:j=i
                . rw [e2];exact e
                . exact ag j (by omega) hmj
              . obtain ⟨r,h3,h4⟩:=hP.all h hm ag;exact ⟨r,im.2 (.inl h3),h4⟩
            . refine List.pairwise_append.2 ⟨hP.apart,List.pairwise_singleton _ _,fun r hr s hs h=>?_⟩;cases gt.1 hs;rintro ⟨h3,h4⟩;obtain ⟨j,q1,q2,q3⟩:=hP.part r hr;exact ((q3 h).1 h3).2.2 (((hpart h).1 h4).2.1 j q1 q2)
          have:=ih (i+1) x2 y3 _ (by omega) (by omega) hA (fun j hj=>hov j (by omega)) hPs;rw [fw,ip] at this;exact this
    . obtain rfl:i=160:=by omega
      rw [zAd (by decide)];exact ⟨_,_,_,rfl,hP⟩
structure Diff (p q:Pat) (l:List Pat):Prop where
  len:l.length<=160
  right:∀ r,r∈l->zaf r=true
  mask:∀ r,r∈l->∀ j,j<160->hbit r.mask j=true->hbit p.mask j=true\/hbit q.mask j=true
  heads:∀ h,(∃ r,r∈l/\zaq r h=true)↔zaq p h=true/\zaq q h=false
  apart:l.Pairwise fun r s=>∀ h,¬ (zaq r h=true/\zaq s h=true)
theorem yfi {q:Pat} {h:Ar 10}:yai q 160 h↔zaq q h=true:=by
  rw [zas];exact ⟨fun a i hi hm=>(a i hi hm).symm,fun a i hi hm=>(a i hi hm).symm⟩
theorem ych {k:Nat} {p q:Pat} (hp:zaf p=true) (hq:zaf q=true) (hk:160<k):∃ l,zk9 k p q=some l/\Diff p q l:=by
  unfold zk9;rw [z4i hp hq hk,fe]
  cases ho:zdk p q with
  |false =>
    rw [zAd (by simp)];refine ⟨_,rfl,by simp,fun r hr=>by cases gt.1 hr;exact hp,fun r hr j hj h1=>by cases gt.1 hr;exact .inl h1,fun h=>?_,List.pairwise_singleton _ _⟩;constructor
    . rintro ⟨r,hr,hm⟩;cases gt.1 hr;refine ⟨hm,?_⟩
      cases hqm:zaq q h with
      |false=>rfl
      |true=>have:=zt5 hm hqm;rw [ho] at this;cases this
    . rintro ⟨hm,_⟩;exact ⟨p,gt.2 rfl,hm⟩
  |true =>
    obtain ⟨pm,pb,pw⟩:=zah.1 hp;rw [zAc rfl];obtain ⟨x,y,l,e,hP⟩:=yhx (k:=k) hp hq hk k 0 p.mask p.bits [] (by omega) (by omega) ⟨pm,pb,fun j hj=>by simp,fun j hj=>by simp,fun j hj=>by omega⟩ (fun j _ hj h1 h2=>ziq.1 ho j hj h1 h2) ⟨by simp,fun r hr=>by simp at hr,fun r hr=>by simp at hr,fun r hr=>by simp at hr,fun h hm hn=>absurd (fun j hj=>by omega) hn,List.Pairwise.nil⟩;rw [show ((0:Nat):Int)=0 from rfl] at e;rw [show (([]:List Pat).length)=0 from rfl] at e;rw [e,fe,zAc rfl];refine ⟨l,rfl,hP.len,hP.right,hP.mask,fun h=>?_,hP.apart⟩;constructor
    . rintro ⟨r,hr,hm⟩;obtain ⟨j,q1,q2,q3⟩:=hP.part r hr;obtain ⟨k1,k2,k3⟩:=(q3 h).1 hm;refine ⟨k1,?_⟩
      cases hqm:zaq q h with
      |false=>rfl
      |true=>exact absurd (zas.1 hqm j q1 q2).symm k3
    . rintro ⟨hm,hn⟩;exact hP.all h hm fun a=>by rw [yfi.1 a] at hn;cases hn
theorem yf4 {α:Type} (e:α) (f:Nat->α):rngF [] e f=e:=rfl
theorem yb7 {α:Type} (x:Nat) (r:List Nat) (e:α) (f:Nat->α):rngF (x :: r) e f=f x:=rfl
theorem z45 {α:Type} (g:α->Bool) {l:List α} {i:Nat} (h:i<l.length):(l.take (i+1)).filter g=(l.take i).filter g++(if g l[i]=true then [l[i]] else []):=by
  rw [List.take_add_one,fj h,Option.toList_some,List.filter_append];cases hg:g l[i]<;>simp [hg]
def yo5 (p:Pat) (l:List Pat) (o:(Ar 10×Bool) ⊕ (Int×List Pat×Nat)):Prop :=
  (o=.inl (zA 10,false)/\∃ q,q∈l/\zdk p q=true/\∀ i,i<160->zh4 q p i=false) \/
  ∃ a:Nat,o=.inr ((a:Int),l.filter (zdk p),(l.filter (zdk p)).length)/\(∀ q,q∈l.filter (zdk p)->∀ i,i<a->zh4 q p i=false)/\(l.filter (zdk p)≠[]->a<160/\∃ q,q∈l.filter (zdk p)/\zh4 q p a=true)
theorem ybs {k:Nat} {p:Pat} {l:List Pat} (hp:zaf p=true) (hl:∀ q,q∈l->zaf q=true) (hlen:l.length<=1000) (hk:big<=k):∃ o,za1 k p l k 160 0 [] 0=some o/\yo5 p l o:=by
  have key : ∀ m i (a : Nat), i <= l.length -> l.length - i < m -> a <= 160 -> (∀ q, q ∈ (l.take i).filter (zdk p) -> ∀ j, j < a -> zh4 q p j = false) -> ((l.take i).filter (zdk p) = [] -> a = 160) -> ((l.take i).filter (zdk p) ≠ [] -> a < 160 /\ ∃ q, q ∈ (l.take i).filter (zdk p) /\ zh4 q p a = true) ->
      ∃ o,za1 k p l m (a:Int) (i:Int) ((l.take i).filter (zdk p)) ((l.take i).filter (zdk p)).length=some o/\yo5 p l o:=by
    intro m
    induction m with
    |zero=>intro i a h1 h2;omega
    |succ m ih =>
      intro i a h1 h2 ha hI hE hN;rw [za1];by_cases c:i<l.length
      . have hq:=hl _ (jo c);have hn:((l.take i).filter (zdk p)).length<=1000:=ju (ni _ _) (by rw [List.length_take];omega);have hf:=z45 (zdk p) c;rw [zAc (zan c),zAc ⟨by omega,zan c⟩,zdq c,zr6 hp hq (by simp only [big] at hk;omega),fe,za4 i (by omega)]
        cases ho:zdk p l[i] with
        |false =>
          rw [zAd (by simp)];rw [ho,zAd (by simp),gr] at hf;have:=ih (i+1) a (by omega) (by omega) ha;rw [hf] at this;exact this hI hE hN
        |true =>
          rw [ho,zAc rfl] at hf;rw [zAc rfl,zAc (by omega),zAc (yc9 (zah.1 hq).1),zAc (yc9 (zah.1 hp).1)];rcases z9n (zah.1 hq).1 (zah.1 hp).1 with ⟨e1,e2⟩|⟨x,r,e1,e2,e3,e4⟩
          . rw [e1,yf4,zAc (by decide)];exact ⟨_,rfl,.inl ⟨rfl,_,jo c,ho,e2⟩⟩
          . rw [e1,yb7,zAd (by omega),show min (a:Int) (x:Int)=((min a x:Nat):Int) by omega];have:=ih (i+1) (min a x) (by omega) (by omega) (by omega);rw [hf,fw,ip] at this;refine this (fun q hq j hj=>?_) (fun h=>by simp at h) (fun _=>⟨by omega,?_⟩)
            . rcases im.1 hq with h|h
              . exact hI q h j (by omega)
              . cases gt.1 h;exact e4 j (by omega)
            . by_cases cx:x<=a
              . exact ⟨_,im.2 (.inr (gt.2 rfl)),by rw [Nat.min_eq_right cx];exact e3⟩
              . rw [Nat.min_eq_left (by omega)];have hne:(l.take i).filter (zdk p)≠[]:=fun h=>by have:=hE h;omega
                obtain ⟨_,q,h3,h4⟩:=hN hne;exact ⟨q,im.2 (.inl h3),h4⟩
      . obtain rfl:i=l.length:=by omega
        rw [zAd (by omega)];rw [List.take_length] at hI hN ⊢;exact ⟨_,rfl,.inr ⟨a,rfl,hI,hN⟩⟩
  exact key k 0 160 (io _) (by simp only [big] at hk;omega) (fm _) (fun q hq=>by simp at hq) (fun _=>rfl) (fun h=>absurd rfl h)
theorem ybr {k:Nat} (hk:big<=k):∀ (m c:Nat) (p:Pat) (l:List Pat),c<=160->161 - c<=m->zaf p=true->(∀ q,q∈l->zaf q=true)->l.length<=1000->(∀ q,q∈l->∀ i,i<c->zh4 q p i=false)->∃ r,zbw k m p l=some r/\Res p l r:=by
  intro m
  induction m with
  |zero=>intro c p l h1 h2;omega
  |succ m ih =>
    intro c p l h1 h2 hp hl hlen hc;rw [zbw];obtain ⟨o,e,hF⟩:=ybs hp hl hlen hk;rw [e,fe];rcases hF with ⟨rfl,q,hq,ho,hn⟩|⟨a,rfl,hI,hN⟩
    . refine ⟨_,rfl,.inr ⟨rfl,fun h hO=>?_⟩⟩
      have:zaq q h=true:=zas.2 fun i hi hm=>by
        have hop:=hn i hi;unfold zh4 at hop;rw [hm] at hop;have hpm:hbit p.mask i=true:=by simpa using hop
        rw [<- zas.1 hO.into i hi hpm];exact (ziq.1 ho i hi hpm hm).symm
      rw [hO.no q hq] at this;cases this
    . rw [Sum.elim_inr];have hnl:(l.filter (zdk p)).length<=1000:=ju (ni _ _) hlen;have hnr:∀ q,q∈l.filter (zdk p)->zaf q=true:=fun q hq=>hl q (ox.1 hq).1;by_cases hz:l.filter (zdk p)=[]
      . rw [zAc (show (((l.filter (zdk p)).length:Nat):Int)=0 by rw [hz];rfl)];unfold zlw;refine ⟨_,rfl,.inl ⟨rfl,zxi hp fun q hq=>?_⟩⟩
        cases ho:zdk p q with
        |false=>rfl
        |true=>have:q∈l.filter (zdk p):=ox.2 ⟨hq,ho⟩;rw [hz] at this;cases this
      . obtain ⟨a160,q0,hq0,hop⟩:=hN hz;have hpa:hbit p.mask a=false:=by unfold zh4 at hop;simp at hop;exact hop.2
        have hca:c<=a:=by
          apply Nat.le_of_not_lt;intro hlt;have:=hc q0 (ox.1 hq0).1 a hlt;rw [hop] at this;cases this
        have hlen0:¬ ((l.filter (zdk p)).length:Int)=0:=by
          intro h;exact hz (List.eq_nil_of_length_eq_zero (by omega))
        rw [zAd hlen0];obtain ⟨p0,f0,F0⟩:=z8v (k:=k) (b:=false) hp a160;obtain ⟨p1,f1,F1⟩:=z8v (k:=k) (b:=true) hp a160;have f0':zim k p (a:Int) 0=some p0:=f0;have f1':zim k p (a:Int) 1=some p1:=f1
        have next:∀ {b:Bool} {r:Pat},zyj p a b r->∀ q,q∈l.filter (zdk p)->∀ i,i<a+1->zh4 q r i=false:=fun {b r} hF q hq i hi=>by
          unfold zh4;rw [hF.hm i (by omega)];by_cases e:i=a
          . simp [e]
          . have:=hI q hq i (by omega);unfold zh4 at this;rw [zAb e,mc];exact this
        obtain ⟨r0,e0,R0⟩:=ih (a+1) p0 _ (by omega) (by omega) (z2s hp F0) hnr hnl (next F0);rw [f0',fe,zAc rfl,e0,fe]
        cases hb:r0.2 with
        |true =>
          rw [zAc rfl];refine ⟨_,rfl,?_⟩;have:=Res.join (r1:=r0) a160 hpa F0 F1 hI R0 (fun h=>by rw [hb] at h;cases h);rw [hb,zAc rfl] at this;rcases this with ⟨x,y⟩|⟨x,y⟩
          . exact .inl ⟨x,⟨Out.near.2 y.out,fun h' ho'=>y.least h' (Out.near.1 ho')⟩⟩
          . exact .inr ⟨x,fun h ho'=>y h (Out.near.1 ho')⟩
        |false =>
          obtain ⟨r1,e1,R1⟩:=ih (a+1) p1 _ (by omega) (by omega) (z2s hp F1) hnr hnl (next F1);rw [zAd (by simp),f1',fe,e1,fe];refine ⟨_,rfl,?_⟩;have:=Res.join a160 hpa F0 F1 hI R0 (fun _=>R1);rw [hb,zAd (by simp)] at this;rcases this with ⟨x,y⟩|⟨x,y⟩
          . exact .inl ⟨x,⟨Out.near.2 y.out,fun h' ho'=>y.least h' (Out.near.1 ho')⟩⟩
          . exact .inr ⟨x,fun h ho'=>y h (Out.near.1 ho')⟩
theorem z3l {k:Nat} (hk:big<=k) {p:Pat} {l:List Pat} (hp:zaf p=true) (hl:∀ q,q∈l->zaf q=true) (hlen:l.length<=1000):∃ r,ze8 k p l=some r/\Res p l r:=by
  obtain ⟨r,e,R⟩:=ybr hk k 0 p l (by omega) (by simp only [big] at hk;omega) hp hl hlen (fun q hq i hi=>by omega);refine ⟨r,?_,R⟩;unfold ze8 zic;rw [e];rfl
end Go.Proofs.Ytkfnjbfnkpameaa
