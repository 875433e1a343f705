/- Part 8 of the proof of MergeStepsAsSpecified (several texts in one; no further condition). -/
import Derived.Test.YtkfnjbfnkpameaaZG
set_option linter.unusedSimpArgs false
set_option linter.unusedVariables false
set_option linter.unusedSectionVars false
namespace Go.Proofs.Ytkfnjbfnkpameaa
set_option maxHeartbeats 8000000
open _root_.And renaming intro->fe
open _root_.Bool renaming and_self->gd,not_false->ip,not_true->iz
open Go.Proofs.Ytkfnjbfnkpameaa.Call renaming fresh->sv
open _root_.Int renaming eq_ofNat_of_zero_le->jy,toNat_natCast->jp
open Go.IntKind renaming i64->fj,u64->f6
open _root_.List renaming append_assoc->gq,append_nil->h9,cons_append->gw,drop_succ_cons->k9,drop_zero->gu,flatten_cons->im,flatten_nil->i5,getElem?_cons_succ->ln,getElem?_cons_zero->ij,length_append->f5,length_cons->gm,length_drop->jk,length_map->ft,length_nil->ji,length_replicate->lm,length_take->il,mem_map->jt,nil_append->gl,replicate->gc,set_cons_succ->ma,set_cons_zero->lj,take_append_drop->je,take_append_of_le_length->ke,take_of_length_le->io
open _root_.Nat renaming add_mul->jv,beq->fy,beq_refl->jc,ble->ib,le_refl->fp,one_mul->n8,reduceAdd->fx,reduceEqDiff->fw,reduceLT->iv,reduceLeDiff->kh,reduceMul->jl,reduceSub->i7,zero_add->i8
open _root_.Option renaming bind_some->fg
open Go.Proofs.Ytkfnjbfnkpameaa.Pure renaming clr->ja
open _root_.Sum renaming elim->kx
open Go.Proofs.Ytkfnjbfnkpameaa.T renaming int->fi,ren->qv,renL->oy
open Go.Proofs.Ytkfnjbfnkpameaa.TW renaming block->gr,freeze->pk,loopT->jo,seq->fh
open Go.Proofs.Ytkfnjbfnkpameaa.zal renaming call->ge
set_option maxRecDepth 100000
open Go Go.RowKit
def zl8 (k:Nat) (p:Pat):Option (Ar 10):=some p.bits
theorem zwn (ax:Axs) (hx:NoAx ax) (k:Nat) (p:Pat) (v:Ar 10) (H:zl8 k p=some v):Pure Try.prog (EE ax) [] 89 [ePat p] (.agg (v.l.map (fi .i64))):=by
 rw [zl8] at H;refine en [.cell 2 43] 5 [0] (hx.no _ (by decide)) (fn89 ax) ?_;intro h hh;apply fh;refine rk [1,2] [] hh fun h hh=>?_;apply fh;refine rk [2] [] hh fun h hh=>?_;cases H;exact rtc hh
def zhg (k:Nat) (i:Int):Option Int:=(if 0<=i/\0<16 then (if (0:Int)<=(fj.wrap (15 - (i % 16))) then some (iShl .i64 1 (fj.wrap (15 - (i % 16)))) else none) else none)
theorem zk0 (ax:Axs) (hx:NoAx ax) (k:Nat) (i:Int) (v:Int) (H:zhg k i=some v):Pure Try.prog (EE ax) [] 95 [.int .i64 i] (.int .i64 v):=by
 rw [zhg] at H;refine en [.tmp 2] 7 [0] (hx.no _ (by decide)) (fn95 ax) ?_;intro h hh;apply fh;refine rk [0] [] hh fun h hh=>?_;obtain ⟨g1,H⟩:=isg H;obtain ⟨g2,H⟩:=isg H;apply fh;refine rk [2] [] (f2 hh (ypz (k:=.i64) (k':=.i64) (a:=1) g2)) fun h hh=>?_;cases H;exact rt hh
def zix (k:Nat) (p:Pat) (i:Int) (b:Int):Option Pat:=(if 0<=i/\0<16 then (if (0:Int)<=(fj.wrap (i / 16))/\(fj.wrap (i / 16))<(10:Int) then ((zhg k i).bind fun aq=>((zhg k i).bind fun bd=>(if b=1 then ((zhg k i).bind fun cr=>some (⟨p.mask.set (fj.wrap (i / 16)) (iOr .i64 (gx p.mask.l (fj.wrap (i / 16))) aq),(p.bits.set (fj.wrap (i / 16)) (zh4 .i64 (gx p.bits.l (fj.wrap (i / 16))) bd)).set (fj.wrap (i / 16)) (iOr .i64 (gx (p.bits.set (fj.wrap (i / 16)) (zh4 .i64 (gx p.bits.l (fj.wrap (i / 16))) bd)).l (fj.wrap (i / 16))) cr)⟩:Pat)) else some (⟨p.mask.set (fj.wrap (i / 16)) (iOr .i64 (gx p.mask.l (fj.wrap (i / 16))) aq),p.bits.set (fj.wrap (i / 16)) (zh4 .i64 (gx p.bits.l (fj.wrap (i / 16))) bd)⟩:Pat)))) else none) else none)
theorem zr3 (ax:Axs) (hx:NoAx ax) (k:Nat) (p:Pat) (i:Int) (b:Int) (v:Pat) (H:zix k p i b=some v):Pure Try.prog (EE ax) [] 90 [ePat p,.int .i64 i,.int .i64 b] (ePat v):=by
 rw [zix] at H;refine en [.cell 6 56] 40 [0,1,2] (hx.no _ (by decide)) (fn90 ax) ?_;intro h hh;apply fh;refine rk [1,2,3,6] [] hh fun h hh=>?_;obtain ⟨g1,H⟩:=isg H;obtain ⟨g2,H⟩:=isg H;obtain ⟨aq,e3,H⟩:=zab H;apply fh;refine dk 7 [1,2,3,6] [.int .i64 aq] [] [] (f3 hh (zrr (k:=.i64) (L:=(p.mask.l.map (fi .i64)++(p.bits.l.map (fi .i64)))) (r:=(p.bits.l.map (fi .i64))) p.mask g2) (yc6 (k:=.i64) (L:=(p.mask.l.map (fi .i64)++(p.bits.l.map (fi .i64)))) (r:=(p.bits.l.map (fi .i64))) (L2:=((p.mask.set (fj.wrap (i / 16)) (iOr .i64 (gx p.mask.l (fj.wrap (i / 16))) aq)).l.map (fi .i64)++(p.bits.l.map (fi .i64)))) p.mask (iOr .i64 (gx p.mask.l (fj.wrap (i / 16))) aq) g2)) ?_ trivial ?_
 .exact ⟨(zk0 ax hx k i aq e3 ).call _,trivial⟩
 clear hh h;intro h hh;obtain ⟨bd,e4,H⟩:=zab H;apply fh;refine dk 7 [1,2,3,6] [.int .i64 bd] [] [] (f3 hh (zo3 (k:=.i64) (off:=10) (L:=((p.mask.set (fj.wrap (i / 16)) (iOr .i64 (gx p.mask.l (fj.wrap (i / 16))) aq)).l.map (fi .i64)++(p.bits.l.map (fi .i64)))) (r:=[]) p.bits g2) (setAt (k:=.i64) (off:=10) (L:=((p.mask.set (fj.wrap (i / 16)) (iOr .i64 (gx p.mask.l (fj.wrap (i / 16))) aq)).l.map (fi .i64)++(p.bits.l.map (fi .i64)))) (r:=[]) (L2:=((p.mask.set (fj.wrap (i / 16)) (iOr .i64 (gx p.mask.l (fj.wrap (i / 16))) aq)).l.map (fi .i64)++((p.bits.set (fj.wrap (i / 16)) (zh4 .i64 (gx p.bits.l (fj.wrap (i / 16))) bd)).l.map (fi .i64)))) (p:=((p.mask.set (fj.wrap (i / 16)) (iOr .i64 (gx p.mask.l (fj.wrap (i / 16))) aq)).l.map (fi .i64))) p.bits (zh4 .i64 (gx p.bits.l (fj.wrap (i / 16))) bd) g2)) ?_ trivial ?_
 .exact ⟨(zk0 ax hx k i bd e4 ).call _,trivial⟩
 clear hh h;intro h hh;repeat apply fh
 refine rk [1,3,6,28] [] hh fun h hh=>?_;rcases isp H with ⟨c5,H⟩|⟨c5,H⟩;rotate_left
 .skip;refine cf (f2 hh (zAb c5)) ?_;refine sk ?_;apply fh;refine rk [6] [] hh fun h hh=>?_;cases H;exact rtc hh
 refine ct (f2 hh (zAa c5)) ?_;obtain ⟨cr,e6,H⟩:=zab H;refine dk 7 [3,6] [.int .i64 cr] [] [] (f3 hh (zo3 (k:=.i64) (off:=10) (L:=((p.mask.set (fj.wrap (i / 16)) (iOr .i64 (gx p.mask.l (fj.wrap (i / 16))) aq)).l.map (fi .i64)++((p.bits.set (fj.wrap (i / 16)) (zh4 .i64 (gx p.bits.l (fj.wrap (i / 16))) bd)).l.map (fi .i64)))) (r:=[]) (p.bits.set (fj.wrap (i / 16)) (zh4 .i64 (gx p.bits.l (fj.wrap (i / 16))) bd)) g2) (setAt (k:=.i64) (off:=10) (L:=((p.mask.set (fj.wrap (i / 16)) (iOr .i64 (gx p.mask.l (fj.wrap (i / 16))) aq)).l.map (fi .i64)++((p.bits.set (fj.wrap (i / 16)) (zh4 .i64 (gx p.bits.l (fj.wrap (i / 16))) bd)).l.map (fi .i64)))) (r:=[]) (L2:=((p.mask.set (fj.wrap (i / 16)) (iOr .i64 (gx p.mask.l (fj.wrap (i / 16))) aq)).l.map (fi .i64)++(((p.bits.set (fj.wrap (i / 16)) (zh4 .i64 (gx p.bits.l (fj.wrap (i / 16))) bd)).set (fj.wrap (i / 16)) (iOr .i64 (gx (p.bits.set (fj.wrap (i / 16)) (zh4 .i64 (gx p.bits.l (fj.wrap (i / 16))) bd)).l (fj.wrap (i / 16))) cr)).l.map (fi .i64)))) (p:=((p.mask.set (fj.wrap (i / 16)) (iOr .i64 (gx p.mask.l (fj.wrap (i / 16))) aq)).l.map (fi .i64))) (p.bits.set (fj.wrap (i / 16)) (zh4 .i64 (gx p.bits.l (fj.wrap (i / 16))) bd)) (iOr .i64 (gx (p.bits.set (fj.wrap (i / 16)) (zh4 .i64 (gx p.bits.l (fj.wrap (i / 16))) bd)).l (fj.wrap (i / 16))) cr) g2)) ?_ trivial ?_
 .exact ⟨(zk0 ax hx k i cr e6 ).call _,trivial⟩
 clear hh h;intro h hh;apply fh;refine rk [6] [] hh fun h hh=>?_;cases H;exact rtc hh
def za2 (k:Nat) (p:Pat) (l:List Pat):Nat->Int->Int->(List Pat)->Nat->Option ((Ar 10×Bool) ⊕ (Int×List Pat×Nat))
 |0,_,_,_,_=>none
 |m+1,at_,i,l2,n=>(if i<(l.length:Int) then (if 0<=i/\i<(l.length:Int) then ((zgo k p (gx l i)).bind fun bh=>(if bh=true then (if (n+1)*161<=1000000000 then (if natM ((gx l i).mask) then (if natM p.mask then (rngF (ya5 ((gx l i).mask) p.mask) (if ((-1):Int)<0 then some (.inl ((zA 10),false)) else za2 k p l m (min at_ (-1)) (fj.wrap (i+1)) (l2++[(gx l i)]) (n+1)) (fun x=>(if (x:Int)<0 then some (.inl ((zA 10),false)) else za2 k p l m (min at_ (x:Int)) (fj.wrap (i+1)) (l2++[(gx l i)]) (n+1)))) else none) else none) else none) else za2 k p l m at_ (fj.wrap (i+1)) l2 n)) else none) else some (.inr (at_,l2,n)))
def zb2 (k:Nat):Nat->Pat->(List Pat)->Option (Ar 10×Bool)
 |0,_,_=>none
 |m+1,p,l=>((za2 k p l k 160 0 [] 0:Option ((Ar 10×Bool) ⊕ (Int×List Pat×Nat))).bind fun o=>kx (fun r=>some r) (fun s_=>(if (s_.2.2:Int)=0 then ((zl8 k p).bind fun dy=>some (dy,true)) else ((zix k p s_.1 0).bind fun db=>(if s_.2.1.length=s_.2.2 then ((zb2 k m db s_.2.1).bind fun rb=>(if rb.2=true then some (rb.1,true) else ((zix k p s_.1 1).bind fun de=>((zb2 k m de s_.2.1).bind fun rb2=>some (rb2.1,rb2.2))))) else none)))) o)
def zij (k:Nat) (p:Pat) (l:List Pat):Option (Ar 10×Bool):=zb2 k k p l
theorem zmy (ax:Axs) (hx:NoAx ax) (k:Nat):∀ (m:Nat) (p:Pat) (l:List Pat) (v:Ar 10×Bool) (H:zb2 k m p l=some v),Call Try.prog (EE ax) [] 87 [ePat p,lPat l,.ptr 0 0 1] (stL [.cells true 1 [.fn 87 [] [.ptr 0 0 1]]]) (tupT [.agg (v.1.l.map (fi .i64)),.bool v.2]) (stL [.cells true 1 [.fn 87 [] [.ptr 0 0 1]]]):=by
 intro m
 induction m with
 |zero=>intro p l v H;cases H
 |succ m ih =>
  intro p l v H;rw [zb2] at H;refine enB [.cell 5 43,.tmp 6] 65 [0,1,2] (hx.no _ (by decide)) (fn87 ax) ?_;intro h hh;apply fh;refine rk [1,2,3,5] [] hh fun h hh=>?_;apply fh;refine rk [1,2,3,5,7] [] hh fun h hh=>?_;refine vk 7 20 [1,2,3,5,7] hh fun h hh=>?_;apply fh;refine rk [1,2,3,5,7,8] [] hh fun h hh=>?_;repeat apply fh
  refine rk [2,3,5,7,8,15,16,17] [] hh fun h hh=>?_;obtain ⟨o,H1,H⟩:=zab H;refine cu [2,3,5,7,8] 4 (fun h bs=>∃ s_:Int×List Pat×Nat,o=.inr s_/\(h 2=.ptr 0 0 1/\h 3=.ptr 1 0 20/\h 5=.ptr 2 0 10/\h 7=.arr 3 20 0 s_.2.2 s_.2.2 (s_.2.2*20)/\h 8=.int .i64 s_.1)/\bs=[.cells true 1 [.fn 87 [] [.ptr 0 0 1]],.cells true 20 (p.mask.l.map (fi .i64)++(p.bits.l.map (fi .i64))),.cells true 10 ((zA 10).l.map (fi .i64)),.cells false (s_.2.2*20) (vecC ePat s_.2.1)]) ?_ ?_
  .skip;apply gr;refine jo [2,3,5,7,8,15,16,17] (fun m h bs=>∃ (at_:Int) (i:Int) (l2:List Pat) (n:Nat),za2 k p l m at_ i l2 n=some o/\(h 2=.ptr 0 0 1/\h 3=.ptr 1 0 20/\h 5=.ptr 2 0 10/\h 7=.arr 3 20 0 n n (n*20)/\h 8=.int .i64 at_/\h 15=lPat l/\h 16=.int .i64 (l.length:Int)/\h 17=.int .i64 i)/\bs=[.cells true 1 [.fn 87 [] [.ptr 0 0 1]],.cells true 20 (p.mask.l.map (fi .i64)++(p.bits.l.map (fi .i64))),.cells true 10 ((zA 10).l.map (fi .i64)),.cells false (n*20) (vecC ePat l2)]) ?_ k _ _ ?_;rotate_left
   .exact ⟨160,0,[],0,H1,kq hh,rfl⟩
   clear hh h H1;rintro m h bs ⟨at_,i,l2,n,H1,hh,rfl⟩;rcases m with _|m
   .rw [za2] at H1;cases H1
   rw [za2] at H1;apply fh;refine rk [2,3,5,7,8,15,16,17,18] [] hh fun h hh=>?_;rcases isp H1 with ⟨c1,H1⟩|⟨c1,H1⟩;rotate_left
   .skip;apply fh;refine cf (f2 hh (zAb c1)) ?_;refine xk ?_;cases H1;exact ce hh ⟨_,rfl,kq hh,rfl⟩
   apply fh;refine ct (f2 hh (zAa c1)) ?_;refine sk ?_;apply fh;apply gr;obtain ⟨g2,H1⟩:=isg H1;apply fh;refine rk [2,3,5,7,8,10,15,16,17] [] (f2 hh (zag g2)) fun h hh=>?_;obtain ⟨bh,e3,H1⟩:=zab H1;repeat apply fh
   refine rkp [2,3,5,7,8,10,15,16,17,24] [] [.bool bh] hh ?_ ?_
   .exact ⟨ge ((zmq ax hx k p (gx l i) bh e3 ).call _),trivial⟩
   clear hh h;intro h hh;rcases isb H1 with ⟨c4,H1⟩|⟨c4,H1⟩;rotate_left
   .skip;refine ct (f2 hh c4) ?_;refine xk ?_;refine rk [2,3,5,7,8,15,16,17] [] (f2 hh c4) fun h hh=>?_;exact rd m hh ⟨at_,(fj.wrap (i+1)),l2,n,H1,kq hh,rfl⟩
   refine cf (f2 hh c4) ?_;refine sk ?_;obtain ⟨g5,H1⟩:=isg H1;apply fh;refine rg [] [] [.cells true 1 [.fn 87 [] [.ptr 0 0 1]],.cells true 20 (p.mask.l.map (fi .i64)++(p.bits.l.map (fi .i64))),.cells true 10 ((zA 10).l.map (fi .i64)),.cells false ((n+1)*20) (vecC ePat (l2++[(gx l i)])),.cells true 20 (((gx l i).mask).l.map (fi .i64)++(((gx l i).bits).l.map (fi .i64)))] (fun h=>h 2=.ptr 0 0 1/\h 3=.ptr 1 0 20/\h 5=.ptr 2 0 10/\h 7=.arr 3 20 0 (n+1) (n+1) ((n+1)*20)/\h 8=.int .i64 at_/\h 10=.ptr 4 0 20/\h 15=lPat l/\h 16=.int .i64 (l.length:Int)/\h 17=.int .i64 i) (f3 hh c4 ((show vecC ePat [(gx l i)]=(((gx l i).mask).l.map (fi .i64)++(((gx l i).bits).l.map (fi .i64))) from zdu.trans rfl))) trivial fun h hh=>?_;apply fh;refine rk [2,3,5,7,8,10,11,15,16,17] [] (f2 hh c4) fun h hh=>?_;repeat apply fh
   refine rkp [2,3,5,7,8,11,15,16,17,31] [] [.fn 93 [] [.cp (((gx l i).mask).l.map (fi .i64)++(((gx l i).bits).l.map (fi .i64))),.cp (p.mask.l.map (fi .i64)++(p.bits.l.map (fi .i64)))]] (f2 hh c4) ?_ ?_
   .exact ⟨ge (ja (yec ax hx (gx l i) p) (by first|rfl|simp only [c4])),trivial⟩
   clear hh h;intro h hh;apply gr;obtain ⟨g6,H1⟩:=isg H1;obtain ⟨g7,H1⟩:=isg H1;rcases isr H1 with ⟨c8,H1⟩|⟨x,l3,c8,H1⟩;rotate_left
   .skip;revert h;intro hO hhO;refine rx1 hhO g6 g7 c8 ?_;refine gk [2,3,5,7,8,11,15,16,17,32] hhO ?_;intro h hh;apply fh;refine rk [2,3,5,7,8,11,12,15,16,17] [] (f2 hh c4) fun h hh=>?_;apply gr;apply fh;refine rk [2,3,5,7,8,11,15,16,17] [] (f2 hh c4) fun h hh=>?_;refine xr ?_;clear hh h;revert hO;intro h hh;repeat apply fh
    refine rk [2,3,5,7,8,11,15,16,17,35] [] (f2 hh c4) fun h hh=>?_;rcases isp H1 with ⟨c9,H1⟩|⟨c9,H1⟩;rotate_left
    .skip;refine cf (f2 hh (zAb c9)) ?_;refine sk ?_;refine rk [2,3,5,7,8,15,16,17] [] (f2 hh c4) fun h hh=>?_;refine rk [2,3,5,7,8,15,16,17] [] (f2 hh c4) fun h hh=>?_;exact rd m hh ⟨(min at_ (x:Int)),(fj.wrap (i+1)),(l2++[(gx l i)]),(n+1),H1,kq hh,rfl⟩
    refine ct (f2 hh (zAa c9)) ?_;apply fh;refine rk [5,6] [] (f3 hh c4 (bz43 ax)) fun h hh=>?_;cases H1;obtain rfl:=sinl H;exact rtBc hh
   refine rx0 hh ?_ g6 g7 c8;repeat apply fh
   refine rk [2,3,5,7,8,11,15,16,17,35] [] (f2 hh c4) fun h hh=>?_;rcases isp H1 with ⟨c10,H1⟩|⟨c10,H1⟩;rotate_left
   .skip;refine cf (f2 hh (zAb c10)) ?_;refine sk ?_;refine rk [2,3,5,7,8,15,16,17] [] (f2 hh c4) fun h hh=>?_;refine rk [2,3,5,7,8,15,16,17] [] (f2 hh c4) fun h hh=>?_;exact rd m hh ⟨(min at_ (-1)),(fj.wrap (i+1)),(l2++[(gx l i)]),(n+1),H1,kq hh,rfl⟩
   refine ct (f2 hh (zAa c10)) ?_;apply fh;refine rk [5,6] [] (f3 hh c4 (bz43 ax)) fun h hh=>?_;cases H1;obtain rfl:=sinl H;exact rtBc hh
  clear hh h;rintro h bs ⟨s_,rfl,hh,rfl⟩;replace H:=sinr H;repeat apply fh
  refine rk [2,3,5,7,8,43] [] hh fun h hh=>?_;rcases isp H with ⟨c11,H⟩|⟨c11,H⟩;rotate_left
  .skip;refine cf (f2 hh (zAb c11)) ?_;refine sk ?_;obtain ⟨db,e13,H⟩:=zab H;obtain ⟨g14,H⟩:=isg H;repeat apply fh
   refine pk 7 (b:=3) (e:=20) (off:=0) (len:=s_.2.2) (cap:=s_.2.2) (M:=(s_.2.2*20)) (s_.2.1.map ePat) (kq hh) (by rfl) (by omega) (by omega) (by rw [gu];exact zde (e:=20) (fun x=>za3 x) g14) (fun t ht=>by obtain ⟨x,_,rfl⟩:=jt.1 ht;first|rfl|exact zgi _|exact za3 _|exact zd9 _|exact zav _ | (rw [ft];rfl)) (by rw [ft]<;>exact g14) (by omega) ?_;rw [zei _ _ _ (by simp only [lzA]<;>omega)];simp only [scA];refine gk [2,3,5,7,8,43] hh fun h hh=>?_;obtain ⟨rb,e15,H⟩:=zab H;refine dk 4 [2,3,5,7,8,13,14] [ePat db] [] [(.tup [.agg (rb.1.l.map (fi .i64)),.bool rb.2],stL [.cells true 1 [.fn 87 [] [.ptr 0 0 1]],.cells true 20 (p.mask.l.map (fi .i64)++(p.bits.l.map (fi .i64))),.cells true 10 ((zA 10).l.map (fi .i64)),.gone])] (f2 hh ag74) ?_ ?_ ?_
   .exact ⟨(zr3 ax hx k p s_.1 0 db e13 ).call _,trivial⟩
   .exact ⟨ca [0] (ih db s_.2.1 rb e15),trivial⟩
   clear hh h;intro h hh;apply fh;refine rk [2,3,5,7,8,13,55] [] hh fun h hh=>?_;rcases isb H with ⟨c16,H⟩|⟨c16,H⟩;rotate_left
   .skip;refine cf (f2 hh c16) ?_;refine sk ?_;obtain ⟨de,e17,H⟩:=zab H;obtain ⟨rb2,e18,H⟩:=zab H;apply fh;refine dk 4 [5,6] [ePat de] [] [(.tup [.agg (rb2.1.l.map (fi .i64)),.bool rb2.2],stL [.cells true 1 [.fn 87 [] [.ptr 0 0 1]],.cells true 20 (p.mask.l.map (fi .i64)++(p.bits.l.map (fi .i64))),.cells true 10 ((zA 10).l.map (fi .i64)),.gone,.cells true 10 (rb.1.l.map (fi .i64))])] (f3 hh c16 ag74) ?_ ?_ ?_
    .exact ⟨ja (zr3 ax hx k p s_.1 1 de e17 ) (by first|rfl|simp only [c16]),trivial⟩
    .exact ⟨ca [0] (ih de s_.2.1 rb2 e18),trivial⟩
    clear hh h;intro h hh;cases H;exact rtBc hh
   refine ct (f2 hh c16) ?_;apply fh;refine rk [5,6] [] (f2 hh c16) fun h hh=>?_;cases H;exact rtBc hh
  refine ct (f2 hh (zAa c11)) ?_;obtain ⟨dy,e12,H⟩:=zab H;apply fh;refine rkc [5,6] [] [(.agg (dy.l.map (fi .i64)),stL [.cells true 1 [.fn 87 [] [.ptr 0 0 1]],.cells true 20 (p.mask.l.map (fi .i64)++(p.bits.l.map (fi .i64))),.cells true 10 ((zA 10).l.map (fi .i64)),.cells false (s_.2.2*20) (vecC ePat s_.2.1)])] hh ?_ ?_
  .exact ⟨ge ((zwn ax hx k p dy e12 ).call _),trivial⟩
  clear hh h;intro h hh;cases H;exact rtBc hh
theorem zov (ax:Axs) (hx:NoAx ax) (k:Nat) (p:Pat) (l:List Pat) (v:Ar 10×Bool) (H:zij k p l=some v):Call Try.prog (EE ax) [] 87 [ePat p,lPat l,.ptr 0 0 1] (stL [.cells true 1 [.fn 87 [] [.ptr 0 0 1]]]) (tupT [.agg (v.1.l.map (fi .i64)),.bool v.2]) (stL [.cells true 1 [.fn 87 [] [.ptr 0 0 1]]]):=zmy ax hx k k p l v H
def zfd (k:Nat) (p:Pat) (l:List Pat):Option (Ar 10×Bool):=((zij k p l).bind fun rb=>some (rb.1,rb.2))
theorem zmr (ax:Axs) (hx:NoAx ax) (k:Nat) (p:Pat) (l:List Pat) (v:Ar 10×Bool) (H:zfd k p l=some v):Pure Try.prog (EE ax) [] 78 [ePat p,lPat l] (tupT [.agg (v.1.l.map (fi .i64)),.bool v.2]):=by
 rw [zfd] at H;refine enN [.cell 4 43,.tmp 5] 14 [0,1] (hx.no _ (by decide)) (fn78 ax) ?_;intro h hh;apply fh;refine rk [1,2,4] [] hh fun h hh=>?_;apply fh;refine rk [1,2,4,6] [] (f2 hh ag74) fun h hh=>?_;apply fh;refine rk [1,2,4,6] [] (f2 hh ag74) fun h hh=>?_;obtain ⟨rb,e1,H⟩:=zab H;apply fh;refine rkc [4,5] [] [(.tup [.agg (rb.1.l.map (fi .i64)),.bool rb.2],stL [.cells true 20 (p.mask.l.map (fi .i64)++(p.bits.l.map (fi .i64))),.cells true 10 ((zA 10).l.map (fi .i64)),.cells true 1 [.fn 87 [] [.ptr 2 0 1]]])] (f2 hh ag74) ?_ ?_
 .exact ⟨ca [2] (zov ax hx k p l rb e1),trivial⟩
 clear hh h;intro h hh;cases H;exact rtc hh
def zg4 (k:Nat) (x:Int):Option Bool:=some (decide (x≠x))
theorem zlq (ax:Axs) (hx:NoAx ax) (k:Nat) (x:Int) (v:Bool) (H:zg4 k x=some v):Pure Try.prog (EE ax) [] 96 [.int .i64 x] (.bool v):=by
 rw [zg4] at H;refine en [.tmp 2] 6 [0] (hx.no _ (by decide)) (fn96 ax) ?_;intro h hh;apply fh;refine rk [0] [] hh fun h hh=>?_;apply fh;refine rk [2] [] hh fun h hh=>?_;cases H;exact rt hh
def zfj (k:Nat) (x:Int) (y:Int):Option Int:=((zg4 k x).bind fun be=>((zg4 k y).bind fun df=>(if be=true then (if df=true then some 0 else some (-1)) else (if df=true then some 1 else (if x<y then some (-1) else (if y<x then some 1 else some 0))))))
theorem zpb (ax:Axs) (hx:NoAx ax) (k:Nat) (x:Int) (y:Int) (v:Int) (H:zfj k x y=some v):Pure Try.prog (EE ax) [] 92 [.int .i64 x,.int .i64 y] (.int .i64 v):=by
 rw [zfj] at H;refine en [.tmp 4] 20 [0,1] (hx.no _ (by decide)) (fn92 ax) ?_;intro h hh;apply fh;refine rk [0,1] [] hh fun h hh=>?_;obtain ⟨be,e1,H⟩:=zab H;apply fh;refine rkp [0,1,5] [] [.bool be] hh ?_ ?_
 .exact ⟨ge ((zlq ax hx k x be e1 ).call _),trivial⟩
 clear hh h;intro h hh;obtain ⟨df,e2,H⟩:=zab H;apply fh;refine rkp [0,1,5,6] [] [.bool df] hh ?_ ?_
 .exact ⟨ge ((zlq ax hx k y df e2 ).call _),trivial⟩
 clear hh h;intro h hh;repeat apply fh
 refine rk [0,1,6,11] [] hh fun h hh=>?_;rcases isb H with ⟨c3,H⟩|⟨c3,H⟩;rotate_left
 .skip;refine cf (f2 hh c3) ?_;refine sk ?_;repeat apply fh
  refine rk [0,1,13] [] (f2 hh c3) fun h hh=>?_;rcases isb H with ⟨c5,H⟩|⟨c5,H⟩;rotate_left
  .skip;refine cf (f2 hh c5) ?_;refine sk ?_;repeat apply fh
   refine rk [0,1,16] [] (f3 hh c3 c5) fun h hh=>?_;rcases isp H with ⟨c6,H⟩|⟨c6,H⟩;rotate_left
   .skip;refine cf (f2 hh (zAb c6)) ?_;refine sk ?_;repeat apply fh
    refine rk [19] [] (f3 hh c3 c5) fun h hh=>?_;rcases isp H with ⟨c7,H⟩|⟨c7,H⟩;rotate_left
    .skip;refine cf (f2 hh (zAb c7)) ?_;refine sk ?_;apply fh;refine rk [4] [] (f3 hh c3 c5) fun h hh=>?_;cases H;exact rt hh
    refine ct (f2 hh (zAa c7)) ?_;apply fh;refine rk [4] [] (f3 hh c3 c5) fun h hh=>?_;cases H;exact rt hh
   refine ct (f2 hh (zAa c6)) ?_;apply fh;refine rk [4] [] (f3 hh c3 c5) fun h hh=>?_;cases H;exact rt hh
  refine ct (f2 hh c5) ?_;apply fh;refine rk [4] [] (f3 hh c3 c5) fun h hh=>?_;cases H;exact rt hh
 refine ct (f2 hh c3) ?_;repeat apply fh
 refine rk [12] [] (f2 hh c3) fun h hh=>?_;rcases isb H with ⟨c4,H⟩|⟨c4,H⟩;rotate_left
 .skip;refine cf (f2 hh c4) ?_;refine sk ?_;apply fh;refine rk [4] [] (f3 hh c3 c4) fun h hh=>?_;cases H;exact rt hh
 refine ct (f2 hh c4) ?_;apply fh;refine rk [4] [] (f3 hh c3 c4) fun h hh=>?_;cases H;exact rt hh
def zbh (k:Nat) (s1:List Int) (s2:List Int):Nat->Int->Option (Int ⊕ Unit)
 |0,_=>none
 |m+1,i=>(if i<(s1.length:Int) then (if 0<=i/\i<(s1.length:Int) then (if (s2.length:Int)<=i then some (.inl 1) else (if 0<=i/\i<(s2.length:Int) then ((zfj k (gx s1 i) (gx s2 i)).bind fun be=>(if be≠0 then some (.inl be) else zbh k s1 s2 m (fj.wrap (i+1)))) else none)) else none) else some (.inr ()))
def ze3 (k:Nat) (s1:List Int) (s2:List Int):Option Int:=((zbh k s1 s2 k 0:Option (Int ⊕ Unit)).bind fun o=>kx (fun r=>some r) (fun s_=>(if (s1.length:Int)<(s2.length:Int) then some (-1) else some 0)) o)
theorem zmx (ax:Axs) (hx:NoAx ax) (k:Nat) (s1:List Int) (s2:List Int) (v:Int) (H:ze3 k s1 s2=some v):Pure Try.prog (EE ax) [] 86 [ints s1,ints s2] (.int .i64 v):=by
 rw [ze3] at H;refine en [.tmp 4] 36 [0,1] (hx.no _ (by decide)) (fn86 ax) ?_;intro h hh;apply fh;refine rk [0,1] [] hh fun h hh=>?_;repeat apply fh
 refine rk [0,1,9,10,11] [] hh fun h hh=>?_;obtain ⟨o,H1,H⟩:=zab H;refine cu [0,1] 0 (fun h bs=>∃ s_:Unit,o=.inr s_/\(h 0=ints s1/\h 1=ints s2)/\bs=[]) ?_ ?_
 .skip;apply gr;refine jo [0,1,9,10,11] (fun m h bs=>∃ (i:Int),zbh k s1 s2 m i=some o/\(h 0=ints s1/\h 1=ints s2/\h 9=ints s1/\h 10=.int .i64 (s1.length:Int)/\h 11=.int .i64 i)/\bs=[]) ?_ k _ _ ?_;rotate_left
  .exact ⟨0,H1,kq hh,rfl⟩
  clear hh h H1;rintro m h bs ⟨i,H1,hh,rfl⟩;rcases m with _|m
  .rw [zbh] at H1;cases H1
  rw [zbh] at H1;apply fh;refine rk [0,1,9,10,11,12] [] hh fun h hh=>?_;rcases isp H1 with ⟨c1,H1⟩|⟨c1,H1⟩;rotate_left
  .skip;apply fh;refine cf (f2 hh (zAb c1)) ?_;refine xk ?_;cases H1;exact ce hh ⟨_,rfl,kq hh,rfl⟩
  apply fh;refine ct (f2 hh (zAa c1)) ?_;refine sk ?_;apply fh;apply gr;obtain ⟨g2,H1⟩:=isg H1;apply fh;refine rk [0,1,5,6,9,10,11] [] (f2 hh (zag g2)) fun h hh=>?_;repeat apply fh
  refine rk [0,1,5,6,9,10,11,19] [] hh fun h hh=>?_;rcases isp H1 with ⟨c3,H1⟩|⟨c3,H1⟩;rotate_left
  .skip;refine cf (f2 hh (zAb c3)) ?_;refine sk ?_;obtain ⟨g4,H1⟩:=isg H1;apply fh;refine rk [0,1,6,7,9,10,11] [] (f2 hh (zag g4)) fun h hh=>?_;obtain ⟨be,e5,H1⟩:=zab H1;apply fh;refine rkp [0,1,8,9,10,11] [] [.int .i64 be] hh ?_ ?_
   .exact ⟨ge ((zpb ax hx k (gx s1 i) (gx s2 i) be e5 ).call _),trivial⟩
   clear hh h;intro h hh;apply fh;refine rk [0,1,8,9,10,11,28] [] hh fun h hh=>?_;rcases isp H1 with ⟨c6,H1⟩|⟨c6,H1⟩;rotate_left
   .skip;refine cf (f2 hh (zAb c6)) ?_;refine sk ?_;refine rk [0,1,9,10,11] [] hh fun h hh=>?_;exact rd m hh ⟨(fj.wrap (i+1)),H1,kq hh,rfl⟩
   refine ct (f2 hh (zAa c6)) ?_;apply fh;refine rk [4] [] hh fun h hh=>?_;cases H1;obtain rfl:=sinl H;exact rt hh
  refine ct (f2 hh (zAa c3)) ?_;apply fh;refine rk [4] [] hh fun h hh=>?_;cases H1;obtain rfl:=sinl H;exact rt hh
 clear hh h;rintro h bs ⟨s_,rfl,hh,rfl⟩;replace H:=sinr H;repeat apply fh
 refine rk [35] [] hh fun h hh=>?_;rcases isp H with ⟨c7,H⟩|⟨c7,H⟩;rotate_left
 .skip;refine cf (f2 hh (zAb c7)) ?_;refine sk ?_;apply fh;refine rk [4] [] hh fun h hh=>?_;cases H;exact rt hh
 refine ct (f2 hh (zAa c7)) ?_;apply fh;refine rk [4] [] hh fun h hh=>?_;cases H;exact rt hh
def zd7 (k:Nat) (a:Ar 10) (b:Ar 10):Option Int:=((ze3 k a.l b.l).bind fun be=>some be)
theorem znd (ax:Axs) (hx:NoAx ax) (k:Nat) (a:Ar 10) (b:Ar 10) (v:Int) (H:zd7 k a b=some v):Pure Try.prog (EE ax) [] 76 [.agg (a.l.map (fi .i64)),.agg (b.l.map (fi .i64))] (.int .i64 v):=by
 rw [zd7] at H;refine en [.tmp 4] 8 [0,1] (hx.no _ (by decide)) (fn76 ax) ?_;intro h hh;apply fh;refine rk [2,3] [] hh fun h hh=>?_;obtain ⟨be,e1,H⟩:=zab H;apply fh;refine dk 0 [4] [] [] [(.int .i64 be,stL [.cells true 10 (a.l.map (fi .i64)),.cells true 10 (b.l.map (fi .i64))])] hh trivial ?_ ?_
 .exact ⟨(by have q:=ge (Pure.lend (S:=stL [.cells true 10 (a.l.map (fi .i64)),.cells true 10 (b.l.map (fi .i64))]) (args:=[.arr 0 1 0 10 10 10,.arr 1 1 0 10 10 10]) (zmx ax hx k a.l b.l be e1 ) (fe (z8p (fun _=>rfl) (by rfl) (Ar.len a)) (fe (z8p (fun _=>rfl) (by rfl) (Ar.len b)) (trivial))) rfl);exact q),trivial⟩
 clear hh h;intro h hh;cases H;exact rt hh
def zbg (k:Nat) (t:List Rule) (k_:Int):Nat->Int->(List Pat)->Option (List Pat)
 |0,_,_=>none
 |m+1,i,l=>(if i<(k_.toNat:Int) then (if 0<=i/\i<(t.length:Int) then (if 0<=i/\i<(k_.toNat:Int) then (if i.toNat<l.length then zbg k t k_ m (fj.wrap (i+1)) (l.set i.toNat ((gx t i).mat)) else none) else none) else none) else some l)
def zdq (k:Nat) (t:List Rule) (k_:Int):Option (List Pat):=(if 0<=k_/\k_.toNat*161<=1000000000 then ((zbg k t k_ k 0 (gc k_.toNat (⟨zA 10,zA 10⟩:Pat)):Option (List Pat)).bind fun s_=>(if s_.length=k_.toNat then some s_ else none)) else none)
theorem zh9 (ax:Axs) (hx:NoAx ax) (k:Nat) (t:List Rule) (k_:Int) (v:List Pat) (H:zdq k t k_=some v):Pure Try.prog (EE ax) [] 77 [zae t,.int .i64 k_] (lPat v):=by
 rw [zdq] at H;refine en [.tmp 4] 24 [0,1] (hx.no _ (by decide)) (fn77 ax) ?_;intro h hh;apply fh;refine rk [0,1] [] hh fun h hh=>?_;obtain ⟨g1,H⟩:=isg H;apply fh;refine rk [0,5] [] (f3 hh (z7w (k_.toNat)) ((show (vecC ePat (gc k_.toNat (⟨zA 10,zA 10⟩:Pat))).length=k_.toNat*20 from by rw [zby (fun x=>za3 x),lm]))) fun h hh=>?_;repeat apply fh
 refine rk [0,5,10,11] [] hh fun h hh=>?_;obtain ⟨s_,H1,H⟩:=zab H;refine cu [5] 1 (fun h bs=>(h 5=.arr 0 20 0 k_.toNat k_.toNat (k_.toNat*20))/\bs=[.cells true (k_.toNat*20) (vecC ePat s_)]) ?_ ?_
 .skip;apply gr;refine jo [0,5,10,11] (fun m h bs=>∃ (i:Int) (l:List Pat),zbg k t k_ m i l=some s_/\(h 0=zae t/\h 5=.arr 0 20 0 k_.toNat k_.toNat (k_.toNat*20)/\h 10=.int .i64 (k_.toNat:Int)/\h 11=.int .i64 i)/\bs=[.cells true (k_.toNat*20) (vecC ePat l)]) ?_ k _ _ ?_;rotate_left
  .exact ⟨0,(gc k_.toNat (⟨zA 10,zA 10⟩:Pat)),H1,kq hh,rfl⟩
  clear hh h H1;rintro m h bs ⟨i,l,H1,hh,rfl⟩;rcases m with _|m
  .rw [zbg] at H1;cases H1
  rw [zbg] at H1;apply fh;refine rk [0,5,10,11,12] [] hh fun h hh=>?_;rcases isp H1 with ⟨c2,H1⟩|⟨c2,H1⟩;rotate_left
  .skip;apply fh;refine cf (f2 hh (zAb c2)) ?_;refine xk ?_;cases H1;exact ce hh ⟨kq hh,rfl⟩
  apply fh;refine ct (f2 hh (zAa c2)) ?_;refine sk ?_;apply fh;apply gr;apply fh;refine rk [0,5,6,10,11] [] hh fun h hh=>?_;obtain ⟨g3,H1⟩:=isg H1;obtain ⟨g4,H1⟩:=isg H1;obtain ⟨g5,H1⟩:=isg H1;refine rk [0,5,10,11] [] (f3 hh (zag g3) (show spl (vecC ePat l) (i.toNat*20) ((((gx t i).mat).mask).l.map (fi .i64)++((((gx t i).mat).bits).l.map (fi .i64)))=_ from zzr ePat 20 ((gx t i).mat) (fun x=>za3 x) g5)) fun h hh=>?_;refine rk [0,5,10,11] [] hh fun h hh=>?_;exact rd m hh ⟨(fj.wrap (i+1)),(l.set i.toNat ((gx t i).mat)),H1,kq hh,rfl⟩
 clear hh h;rintro h bs ⟨hh,rfl⟩;apply fh;refine rk [4] [] hh fun h hh=>?_;obtain ⟨g6,H⟩:=isg H;refine pk 4 (b:=0) (e:=20) (off:=0) (len:=k_.toNat) (cap:=k_.toNat) (M:=(k_.toNat*20)) (s_.map ePat) (kq hh) (by rfl) (by omega) (by omega) (by rw [gu];exact zde (fun x=>za3 x) g6) (fun t ht=>by obtain ⟨x,_,rfl⟩:=jt.1 ht;first|rfl|exact zgi _|exact za3 _|exact zd9 _|exact zav _ | (rw [ft];rfl)) (by rw [ft]<;>exact g6) (by omega) ?_;rw [zei _ _ _ (by simp only [lzA]<;>omega)];simp only [scA];refine gk [4] hh fun h hh=>?_;cases H;exact rt hh
def za8 (k:Nat) (t:List Rule) (k_:Int):Nat->Int->(List Pat)->Option (List Pat)
 |0,_,_=>none
 |m+1,i,l=>(if i<(k_.toNat:Int) then (if 0<=i/\i<(t.length:Int) then (if 0<=i/\i<(k_.toNat:Int) then (if i.toNat<l.length then za8 k t k_ m (fj.wrap (i+1)) (l.set i.toNat ((gx t i).mat)) else none) else none) else none) else some l)
def zc6 (k:Nat) (t:List Rule) (k_:Int):Option (List Pat×Nat):=(if 0<=k_/\k_.toNat*161<=1000000000 then ((za8 k t k_ k 0 (gc k_.toNat (⟨zA 10,zA 10⟩:Pat)):Option (List Pat)).bind fun s_=>some (s_,k_.toNat)) else none)
theorem zhm (ax:Axs) (hx:NoAx ax) (k:Nat) (t:List Rule) (k_:Int) (v:List Pat×Nat) (H:zc6 k t k_=some v):Call Try.prog (EE ax) [] 77 [zae t,.int .i64 k_] (stL []) (tupT [.arr 0 20 0 v.2 v.2 (v.2*20)]) (stL [.cells false (v.2*20) (vecC ePat v.1)]):=by
 rw [zc6] at H;refine enBr [.tmp 4] 24 [0,1] (hx.no _ (by decide)) (fn77 ax) ?_;intro h hh;apply fh;refine rk [0,1] [] hh fun h hh=>?_;obtain ⟨g1,H⟩:=isg H;apply fh;refine rk [0,5] [] (f3 hh (z7w (k_.toNat)) ((show (vecC ePat (gc k_.toNat (⟨zA 10,zA 10⟩:Pat))).length=k_.toNat*20 from by rw [zby (fun x=>za3 x),lm]))) fun h hh=>?_;repeat apply fh
 refine rk [0,5,10,11] [] hh fun h hh=>?_;obtain ⟨s_,H1,H⟩:=zab H;refine cu [5] 1 (fun h bs=>(h 5=.arr 0 20 0 k_.toNat k_.toNat (k_.toNat*20))/\bs=[.cells true (k_.toNat*20) (vecC ePat s_)]) ?_ ?_
 .skip;apply gr;refine jo [0,5,10,11] (fun m h bs=>∃ (i:Int) (l:List Pat),za8 k t k_ m i l=some s_/\(h 0=zae t/\h 5=.arr 0 20 0 k_.toNat k_.toNat (k_.toNat*20)/\h 10=.int .i64 (k_.toNat:Int)/\h 11=.int .i64 i)/\bs=[.cells true (k_.toNat*20) (vecC ePat l)]) ?_ k _ _ ?_;rotate_left
  .exact ⟨0,(gc k_.toNat (⟨zA 10,zA 10⟩:Pat)),H1,kq hh,rfl⟩
  clear hh h H1;rintro m h bs ⟨i,l,H1,hh,rfl⟩;rcases m with _|m
  .rw [za8] at H1;cases H1
  rw [za8] at H1;apply fh;refine rk [0,5,10,11,12] [] hh fun h hh=>?_;rcases isp H1 with ⟨c2,H1⟩|⟨c2,H1⟩;rotate_left
  .skip;apply fh;refine cf (f2 hh (zAb c2)) ?_;refine xk ?_;cases H1;exact ce hh ⟨kq hh,rfl⟩
  apply fh;refine ct (f2 hh (zAa c2)) ?_;refine sk ?_;apply fh;apply gr;apply fh;refine rk [0,5,6,10,11] [] hh fun h hh=>?_;obtain ⟨g3,H1⟩:=isg H1;obtain ⟨g4,H1⟩:=isg H1;obtain ⟨g5,H1⟩:=isg H1;refine rk [0,5,10,11] [] (f3 hh (zag g3) (show spl (vecC ePat l) (i.toNat*20) ((((gx t i).mat).mask).l.map (fi .i64)++((((gx t i).mat).bits).l.map (fi .i64)))=_ from zzr ePat 20 ((gx t i).mat) (fun x=>za3 x) g5)) fun h hh=>?_;refine rk [0,5,10,11] [] hh fun h hh=>?_;exact rd m hh ⟨(fj.wrap (i+1)),(l.set i.toNat ((gx t i).mat)),H1,kq hh,rfl⟩
 clear hh h;rintro h bs ⟨hh,rfl⟩;apply fh;refine rk [4] [] hh fun h hh=>?_;refine uz 0 ?_;cases H;exact rtB hh
def zfi (k:Nat) (h_:Ar 10) (x0:Bool) (x1:Ar 10):Option (Bool×Ar 10):=(if x0=true then ((zd7 k h_ x1).bind fun bj=>(if bj<0 then some (true,h_) else some (true,x1))) else some (true,h_))
theorem zo7 (ax:Axs) (hx:NoAx ax) (k:Nat) (h_:Ar 10) (x0:Bool) (x1:Ar 10) (v:Bool×Ar 10) (H:zfi k h_ x0 x1=some v):Call Try.prog (EE ax) [] 75 [.agg (h_.l.map (fi .i64)),.ptr 0 0 1,.ptr 1 0 10] (stL [.cells true 1 [.bool x0],.cells true 10 (x1.l.map (fi .i64))]) (tupT []) (stL [.cells true 1 [.bool v.1],.cells true 10 (v.2.l.map (fi .i64))]):=by
 rw [zfi] at H;refine enB [] 13 [0,1,2] (hx.no _ (by decide)) (fn75 ax) ?_;intro h hh;apply fh;refine rk [1,2,3] [] hh fun h hh=>?_;rcases isb H with ⟨c1,H⟩|⟨c1,H⟩;rotate_left
 .skip;apply fh;refine rk [1,2,3,11] [] (f2 hh c1) fun h hh=>?_;refine ct hh ?_;refine rk [] [] (f2 hh c1) fun h hh=>?_;cases H;exact rnB hh
 obtain ⟨bj,e2,H⟩:=zab H;apply fh;refine rkc [1,2,3,11] [] [(.int .i64 bj,stL [.cells true 1 [.bool x0],.cells true 10 (x1.l.map (fi .i64)),.cells true 10 (h_.l.map (fi .i64))])] (f2 hh c1) ?_ ?_
 .exact ⟨ge (ja (znd ax hx k h_ x1 bj e2 ) (by first|rfl|simp only [c1])),trivial⟩
 clear hh h;intro h hh;rcases isp H with ⟨c3,H⟩|⟨c3,H⟩;rotate_left
 .skip;refine cf (f2 hh (zAb c3)) ?_;refine sk ?_;cases H;exact rnB hh
 refine ct (f2 hh (zAa c3)) ?_;refine rk [] [] (f2 hh c1) fun h hh=>?_;cases H;exact rnB hh
def zbj (k:Nat) (t:List Rule) (u:List Rule) (i:Int):Nat->Int->(Ar 10)->Bool->Option (Ar 10×Bool)
 |0,_,_,_=>none
 |m+1,i2,x3,x4=>(if i2<((u++[(⟨0,⟨zA 10,zA 10⟩,-1,[]⟩:Rule)]).length:Int) then (if 0<=i2/\i2<((u++[(⟨0,⟨zA 10,zA 10⟩,-1,[]⟩:Rule)]).length:Int) then ((zhn k (⟨(gx (t++[(⟨0,⟨zA 10,zA 10⟩,-1,[]⟩:Rule)]) i).prio,((gx (t++[(⟨0,⟨zA 10,zA 10⟩,-1,[]⟩:Rule)]) i).mat),(gx (t++[(⟨0,⟨zA 10,zA 10⟩,-1,[]⟩:Rule)]) i).step,(gx (t++[(⟨0,⟨zA 10,zA 10⟩,-1,[]⟩:Rule)]) i).outs⟩:Rule) (⟨(gx (u++[(⟨0,⟨zA 10,zA 10⟩,-1,[]⟩:Rule)]) i2).prio,((gx (u++[(⟨0,⟨zA 10,zA 10⟩,-1,[]⟩:Rule)]) i2).mat),(gx (u++[(⟨0,⟨zA 10,zA 10⟩,-1,[]⟩:Rule)]) i2).step,(gx (u++[(⟨0,⟨zA 10,zA 10⟩,-1,[]⟩:Rule)]) i2).outs⟩:Rule)).bind fun am=>(if am=true then zbj k t u i m (fj.wrap (i2+1)) x3 x4 else ((ziy k ((gx (t++[(⟨0,⟨zA 10,zA 10⟩,-1,[]⟩:Rule)]) i).mat) ((gx (u++[(⟨0,⟨zA 10,zA 10⟩,-1,[]⟩:Rule)]) i2).mat)).bind fun af=>(if af.2=true then ((((zc6 k (t++[(⟨0,⟨zA 10,zA 10⟩,-1,[]⟩:Rule)]) i).bind fun rb=>((zdq k (u++[(⟨0,⟨zA 10,zA 10⟩,-1,[]⟩:Rule)]) i2).bind fun ac=>(if (rb.2+ac.length)*161<=1000000000 then (if ac.length=0 then (if rb.1.length=rb.2 then ((zfd k af.1 rb.1).bind fun az=>some (az.2,rb.1,rb.2,az.1)) else none) else (if (rb.1++ac).length=rb.2+ac.length then ((zfd k af.1 (rb.1++ac)).bind fun bc=>some (bc.2,rb.1++ac,rb.2+ac.length,bc.1)) else none)) else none))):Option (Bool×List Pat×Nat×Ar 10)).bind fun s_4=>(if s_4.1=true then ((zfi k s_4.2.2.2 x4 x3).bind fun rb2=>zbj k t u i m (fj.wrap (i2+1)) rb2.2 rb2.1) else zbj k t u i m (fj.wrap (i2+1)) x3 x4)) else zbj k t u i m (fj.wrap (i2+1)) x3 x4)))) else none) else some (x3,x4))
def zc7 (k:Nat) (t:List Rule) (u:List Rule):Nat->Int->(Ar 10)->Bool->Option (Ar 10×Bool)
 |0,_,_,_=>none
 |m+1,i,x,x2=>(if i<((t++[(⟨0,⟨zA 10,zA 10⟩,-1,[]⟩:Rule)]).length:Int) then (((if 0<=i/\i<((t++[(⟨0,⟨zA 10,zA 10⟩,-1,[]⟩:Rule)]).length:Int) then ((zbj k t u i k 0 x x2:Option (Ar 10×Bool)).bind fun s_3=>some (s_3.1,s_3.2)) else none):Option (Ar 10×Bool)).bind fun s_2=>zc7 k t u m (fj.wrap (i+1)) s_2.1 s_2.2) else some (x,x2))
def zho (k:Nat) (t:List Rule) (u:List Rule):Option (Ar 10×Bool):=(if t.length*201<=1000000000 then (if (t.length+1)*201<=1000000000 then (if u.length*201<=1000000000 then (if (u.length+1)*201<=1000000000 then (if (t++[(⟨0,⟨zA 10,zA 10⟩,-1,[]⟩:Rule)]).length=t.length+1 then (if (u++[(⟨0,⟨zA 10,zA 10⟩,-1,[]⟩:Rule)]).length=u.length+1 then ((zc7 k t u k 0 (zA 10) false:Option (Ar 10×Bool)).bind fun s_=>some (s_.1,(!s_.2))) else none) else none) else none) else none) else none) else none)
theorem zty (ax:Axs) (hx:NoAx ax) (k:Nat) (t:List Rule) (u:List Rule) (v:Ar 10×Bool) (H:zho k t u=some v):Pure Try.prog (EE ax) [] 60 [zae t,zae u] (tupT [.agg (v.1.l.map (fi .i64)),.bool v.2]):=by
 rw [zho] at H;refine enN [.cell 4 43,.tmp 5] 85 [0,1] (hx.no _ (by decide)) (fn60 ax) ?_;intro h hh;apply fh;refine rk [0,1,4] [] hh fun h hh=>?_;apply fh;refine rk [0,1,4,6] [] hh fun h hh=>?_;refine nz 1 22 1 ?_;refine zk 6 1 23 true (fi .i64 0 :: ((zA 10).l.map (fi .i64)++((zA 10).l.map (fi .i64)++[fi .i64 (-1),za6 []]))) [0,1,4,6] hh fun h hh=>?_;obtain ⟨g1,H⟩:=isg H;obtain ⟨g2,H⟩:=isg H;obtain ⟨g3,H⟩:=isg H;obtain ⟨g4,H⟩:=isg H;apply fh;refine dcg 1 [6] [] [] [(.arr 2 23 0 t.length t.length (t.length*23),stL [.cells true 10 ((zA 10).l.map (fi .i64)),.gone,.cells false (t.length*23) (vecC zaj t)]),(.arr 3 23 0 u.length u.length (u.length*23),stL [.cells true 10 ((zA 10).l.map (fi .i64)),.gone,.cells false ((t.length+1)*23) (vecC zaj (t++[(⟨0,⟨zA 10,zA 10⟩,-1,[]⟩:Rule)])),.cells false (u.length*23) (vecC zaj u)])] [.cells true 10 ((zA 10).l.map (fi .i64)),.gone,.cells false ((t.length+1)*23) (vecC zaj (t++[(⟨0,⟨zA 10,zA 10⟩,-1,[]⟩:Rule)])),.cells false ((u.length+1)*23) (vecC zaj (u++[(⟨0,⟨zA 10,zA 10⟩,-1,[]⟩:Rule)]))] (fun h=>h 4=.ptr 0 0 10/\h 7=.arr 2 23 0 (t.length+1) (t.length+1) ((t.length+1)*23)/\h 8=.arr 3 23 0 (u.length+1) (u.length+1) ((u.length+1)*23)) (f2 hh ((show vecC zaj [(⟨0,⟨zA 10,zA 10⟩,-1,[]⟩:Rule)]=(fi .i64 ((⟨0,⟨zA 10,zA 10⟩,-1,[]⟩:Rule).prio) :: ((((⟨0,⟨zA 10,zA 10⟩,-1,[]⟩:Rule).mat).mask).l.map (fi .i64)++((((⟨0,⟨zA 10,zA 10⟩,-1,[]⟩:Rule).mat).bits).l.map (fi .i64)++[fi .i64 ((⟨0,⟨zA 10,zA 10⟩,-1,[]⟩:Rule).step),za6 ((⟨0,⟨zA 10,zA 10⟩,-1,[]⟩:Rule).outs)]))) from zdu.trans rfl))) trivial ?_ ?_
 .exact ⟨(by have q:=sv (zlr ax hx t g1) (by simp only [zbn,idsA,idsB,gd]) (by simp only [zbn,idsA,idsB,gd]) [.cells true 10 ((zA 10).l.map (fi .i64)),.gone];first|exact q | (simp only [jv,n8,zaw,(show vecC zaj [(⟨0,⟨zA 10,zA 10⟩,-1,[]⟩:Rule)]=(fi .i64 ((⟨0,⟨zA 10,zA 10⟩,-1,[]⟩:Rule).prio) :: ((((⟨0,⟨zA 10,zA 10⟩,-1,[]⟩:Rule).mat).mask).l.map (fi .i64)++((((⟨0,⟨zA 10,zA 10⟩,-1,[]⟩:Rule).mat).bits).l.map (fi .i64)++[fi .i64 ((⟨0,⟨zA 10,zA 10⟩,-1,[]⟩:Rule).step),za6 ((⟨0,⟨zA 10,zA 10⟩,-1,[]⟩:Rule).outs)]))) from zdu.trans rfl)] at q ⊢;exact q)),(by have q:=sv (zlr ax hx u g3) (by simp only [zbn,idsA,idsB,gd]) (by simp only [zbn,idsA,idsB,gd]) [.cells true 10 ((zA 10).l.map (fi .i64)),.gone,.cells false ((t.length+1)*23) (vecC zaj (t++[(⟨0,⟨zA 10,zA 10⟩,-1,[]⟩:Rule)]))];first|exact q | (simp only [jv,n8,zaw,(show vecC zaj [(⟨0,⟨zA 10,zA 10⟩,-1,[]⟩:Rule)]=(fi .i64 ((⟨0,⟨zA 10,zA 10⟩,-1,[]⟩:Rule).prio) :: ((((⟨0,⟨zA 10,zA 10⟩,-1,[]⟩:Rule).mat).mask).l.map (fi .i64)++((((⟨0,⟨zA 10,zA 10⟩,-1,[]⟩:Rule).mat).bits).l.map (fi .i64)++[fi .i64 ((⟨0,⟨zA 10,zA 10⟩,-1,[]⟩:Rule).step),za6 ((⟨0,⟨zA 10,zA 10⟩,-1,[]⟩:Rule).outs)]))) from zdu.trans rfl)] at q ⊢;exact q)),trivial⟩
 clear hh h;intro h hh;obtain ⟨g5,H⟩:=isg H;apply fh;refine pk 7 (b:=2) (e:=23) (off:=0) (len:=(t.length+1)) (cap:=(t.length+1)) (M:=((t.length+1)*23)) ((t++[(⟨0,⟨zA 10,zA 10⟩,-1,[]⟩:Rule)]).map zaj) (kq hh) (by rfl) (by omega) (by omega) (by rw [gu];exact zde (e:=23) (fun x=>zav x) g5) (fun t ht=>by obtain ⟨x,_,rfl⟩:=jt.1 ht;first|rfl|exact zgi _|exact za3 _|exact zd9 _|exact zav _ | (rw [ft];rfl)) (by rw [ft]<;>exact g5) (by omega) ?_;rw [zei _ _ _ (by simp only [lzA]<;>omega)];simp only [scA];refine gk [4,7,8] hh fun h hh=>?_;obtain ⟨g6,H⟩:=isg H;refine pk 8 (b:=3) (e:=23) (off:=0) (len:=(u.length+1)) (cap:=(u.length+1)) (M:=((u.length+1)*23)) ((u++[(⟨0,⟨zA 10,zA 10⟩,-1,[]⟩:Rule)]).map zaj) (kq hh) (by rfl) (by omega) (by omega) (by rw [gu];exact zde (e:=23) (fun x=>zav x) g6) (fun t ht=>by obtain ⟨x,_,rfl⟩:=jt.1 ht;first|rfl|exact zgi _|exact za3 _|exact zd9 _|exact zav _ | (rw [ft];rfl)) (by rw [ft]<;>exact g6) (by omega) ?_;rw [zei _ _ _ (by simp only [lzA]<;>omega)];simp only [scA];refine gk [4,7,8] hh fun h hh=>?_;refine rk [4,7,8,9] [] hh fun h hh=>?_;apply fh;refine rk [4,7,8,9,10] [] hh fun h hh=>?_;apply fh;refine rk [4,7,8,9,10,11] [] hh fun h hh=>?_;apply fh;refine rk [4,7,8,9,10,11,12,13] [] hh fun h hh=>?_;repeat apply fh
 refine rk [4,8,9,10,11,12,13,38,39,40] [] hh fun h hh=>?_;obtain ⟨s_,H1,H⟩:=zab H;refine cu [4,9,10] 6 (fun h bs=>(h 4=.ptr 0 0 10/\h 9=.ptr 4 0 10/\h 10=.ptr 5 0 1)/\bs=[.cells true 10 ((zA 10).l.map (fi .i64)),.gone,.gone,.gone,.cells true 10 (s_.1.l.map (fi .i64)),.cells true 1 [.bool s_.2]]) ?_ ?_
 .skip;apply gr;refine jo [4,8,9,10,11,12,13,38,39,40] (fun m h bs=>∃ (i:Int) (x:Ar 10) (x2:Bool),zc7 k t u m i x x2=some s_/\(h 4=.ptr 0 0 10/\h 8=zae (u++[(⟨0,⟨zA 10,zA 10⟩,-1,[]⟩:Rule)])/\h 9=.ptr 4 0 10/\h 10=.ptr 5 0 1/\h 11=.fn 75 [] [.ptr 5 0 1,.ptr 4 0 10]/\h 12=.fn 77 [zae (t++[(⟨0,⟨zA 10,zA 10⟩,-1,[]⟩:Rule)])] []/\h 13=.fn 77 [zae (u++[(⟨0,⟨zA 10,zA 10⟩,-1,[]⟩:Rule)])] []/\h 38=zae (t++[(⟨0,⟨zA 10,zA 10⟩,-1,[]⟩:Rule)])/\h 39=.int .i64 ((t++[(⟨0,⟨zA 10,zA 10⟩,-1,[]⟩:Rule)]).length:Int)/\h 40=.int .i64 i)/\bs=[.cells true 10 ((zA 10).l.map (fi .i64)),.gone,.gone,.gone,.cells true 10 (x.l.map (fi .i64)),.cells true 1 [.bool x2]]) ?_ k _ _ ?_;rotate_left
  .exact ⟨0,(zA 10),false,H1,kq hh,rfl⟩
  clear hh h H1;rintro m h bs ⟨i,x,x2,H1,hh,rfl⟩;rcases m with _|m
  .rw [zc7] at H1;cases H1
  rw [zc7] at H1;apply fh;refine rk [4,8,9,10,11,12,13,38,39,40,41] [] hh fun h hh=>?_;rcases isp H1 with ⟨c7,H1⟩|⟨c7,H1⟩;rotate_left
  .skip;apply fh;refine cf (f2 hh (zAb c7)) ?_;refine xk ?_;cases H1;exact ce hh ⟨kq hh,rfl⟩
  apply fh;refine ct (f2 hh (zAa c7)) ?_;refine sk ?_;obtain ⟨s_2,H2,H1⟩:=zab H1;apply fh;refine cu [4,8,9,10,11,12,13,38,39,40] 6 (fun h bs=>(h 4=.ptr 0 0 10/\h 8=zae (u++[(⟨0,⟨zA 10,zA 10⟩,-1,[]⟩:Rule)])/\h 9=.ptr 4 0 10/\h 10=.ptr 5 0 1/\h 11=.fn 75 [] [.ptr 5 0 1,.ptr 4 0 10]/\h 12=.fn 77 [zae (t++[(⟨0,⟨zA 10,zA 10⟩,-1,[]⟩:Rule)])] []/\h 13=.fn 77 [zae (u++[(⟨0,⟨zA 10,zA 10⟩,-1,[]⟩:Rule)])] []/\h 38=zae (t++[(⟨0,⟨zA 10,zA 10⟩,-1,[]⟩:Rule)])/\h 39=.int .i64 ((t++[(⟨0,⟨zA 10,zA 10⟩,-1,[]⟩:Rule)]).length:Int)/\h 40=.int .i64 i)/\bs=[.cells true 10 ((zA 10).l.map (fi .i64)),.gone,.gone,.gone,.cells true 10 (s_2.1.l.map (fi .i64)),.cells true 1 [.bool s_2.2]]) ?_ ?_
  .skip;apply gr;obtain ⟨g8,H2⟩:=isg H2;apply fh;refine rk [4,8,9,10,11,12,13,14,15,38,39,40] [] (f2 hh (zag g8)) fun h hh=>?_;apply fh;refine rk [4,8,9,10,11,12,13,14,15,38,39,40,45,46,47] [] hh fun h hh=>?_;obtain ⟨s_3,H3,H2⟩:=zab H2;refine cu [4,8,9,10,11,12,13,38,39,40] 7 (fun h bs=>(h 4=.ptr 0 0 10/\h 8=zae (u++[(⟨0,⟨zA 10,zA 10⟩,-1,[]⟩:Rule)])/\h 9=.ptr 4 0 10/\h 10=.ptr 5 0 1/\h 11=.fn 75 [] [.ptr 5 0 1,.ptr 4 0 10]/\h 12=.fn 77 [zae (t++[(⟨0,⟨zA 10,zA 10⟩,-1,[]⟩:Rule)])] []/\h 13=.fn 77 [zae (u++[(⟨0,⟨zA 10,zA 10⟩,-1,[]⟩:Rule)])] []/\h 38=zae (t++[(⟨0,⟨zA 10,zA 10⟩,-1,[]⟩:Rule)])/\h 39=.int .i64 ((t++[(⟨0,⟨zA 10,zA 10⟩,-1,[]⟩:Rule)]).length:Int)/\h 40=.int .i64 i)/\bs=[.cells true 10 ((zA 10).l.map (fi .i64)),.gone,.gone,.gone,.cells true 10 (s_3.1.l.map (fi .i64)),.cells true 1 [.bool s_3.2],.cells true 23 (fi .i64 ((gx (t++[(⟨0,⟨zA 10,zA 10⟩,-1,[]⟩:Rule)]) i).prio) :: ((((gx (t++[(⟨0,⟨zA 10,zA 10⟩,-1,[]⟩:Rule)]) i).mat).mask).l.map (fi .i64)++((((gx (t++[(⟨0,⟨zA 10,zA 10⟩,-1,[]⟩:Rule)]) i).mat).bits).l.map (fi .i64)++[fi .i64 ((gx (t++[(⟨0,⟨zA 10,zA 10⟩,-1,[]⟩:Rule)]) i).step),za6 ((gx (t++[(⟨0,⟨zA 10,zA 10⟩,-1,[]⟩:Rule)]) i).outs)])))]) ?_ ?_
   .skip;apply gr;refine jo [4,8,9,10,11,12,13,14,15,38,39,40,45,46,47] (fun m h bs=>∃ (i2:Int) (x3:Ar 10) (x4:Bool),zbj k t u i m i2 x3 x4=some s_3/\(h 4=.ptr 0 0 10/\h 8=zae (u++[(⟨0,⟨zA 10,zA 10⟩,-1,[]⟩:Rule)])/\h 9=.ptr 4 0 10/\h 10=.ptr 5 0 1/\h 11=.fn 75 [] [.ptr 5 0 1,.ptr 4 0 10]/\h 12=.fn 77 [zae (t++[(⟨0,⟨zA 10,zA 10⟩,-1,[]⟩:Rule)])] []/\h 13=.fn 77 [zae (u++[(⟨0,⟨zA 10,zA 10⟩,-1,[]⟩:Rule)])] []/\h 14=.int .i64 i/\h 15=.ptr 6 0 23/\h 38=zae (t++[(⟨0,⟨zA 10,zA 10⟩,-1,[]⟩:Rule)])/\h 39=.int .i64 ((t++[(⟨0,⟨zA 10,zA 10⟩,-1,[]⟩:Rule)]).length:Int)/\h 40=.int .i64 i/\h 45=zae (u++[(⟨0,⟨zA 10,zA 10⟩,-1,[]⟩:Rule)])/\h 46=.int .i64 ((u++[(⟨0,⟨zA 10,zA 10⟩,-1,[]⟩:Rule)]).length:Int)/\h 47=.int .i64 i2)/\bs=[.cells true 10 ((zA 10).l.map (fi .i64)),.gone,.gone,.gone,.cells true 10 (x3.l.map (fi .i64)),.cells true 1 [.bool x4],.cells true 23 (fi .i64 ((gx (t++[(⟨0,⟨zA 10,zA 10⟩,-1,[]⟩:Rule)]) i).prio) :: ((((gx (t++[(⟨0,⟨zA 10,zA 10⟩,-1,[]⟩:Rule)]) i).mat).mask).l.map (fi .i64)++((((gx (t++[(⟨0,⟨zA 10,zA 10⟩,-1,[]⟩:Rule)]) i).mat).bits).l.map (fi .i64)++[fi .i64 ((gx (t++[(⟨0,⟨zA 10,zA 10⟩,-1,[]⟩:Rule)]) i).step),za6 ((gx (t++[(⟨0,⟨zA 10,zA 10⟩,-1,[]⟩:Rule)]) i).outs)])))]) ?_ k _ _ ?_;rotate_left
    .exact ⟨0,x,x2,H3,kq hh,rfl⟩
    clear hh h H3;rintro m h bs ⟨i2,x3,x4,H3,hh,rfl⟩;rcases m with _|m
    .rw [zbj] at H3;cases H3
    rw [zbj] at H3;apply fh;refine rk [4,8,9,10,11,12,13,14,15,38,39,40,45,46,47,48] [] hh fun h hh=>?_;rcases isp H3 with ⟨c9,H3⟩|⟨c9,H3⟩;rotate_left
    .skip;apply fh;refine cf (f2 hh (zAb c9)) ?_;refine xk ?_;cases H3;exact ce hh ⟨kq hh,rfl⟩
    apply fh;refine ct (f2 hh (zAa c9)) ?_;refine sk ?_;apply fh;apply gr;obtain ⟨g10,H3⟩:=isg H3;apply fh;refine rk [4,8,9,10,11,12,13,14,15,16,17,38,39,40,45,46,47] [] (f2 hh (zag g10)) fun h hh=>?_;obtain ⟨am,e11,H3⟩:=zab H3;repeat apply fh
    refine rkp [4,8,9,10,11,12,13,14,15,16,17,38,39,40,45,46,47,54] [] [.bool am] hh ?_ ?_
    .exact ⟨ge ((zm7 ax hx k (⟨(gx (t++[(⟨0,⟨zA 10,zA 10⟩,-1,[]⟩:Rule)]) i).prio,((gx (t++[(⟨0,⟨zA 10,zA 10⟩,-1,[]⟩:Rule)]) i).mat),(gx (t++[(⟨0,⟨zA 10,zA 10⟩,-1,[]⟩:Rule)]) i).step,(gx (t++[(⟨0,⟨zA 10,zA 10⟩,-1,[]⟩:Rule)]) i).outs⟩:Rule) (⟨(gx (u++[(⟨0,⟨zA 10,zA 10⟩,-1,[]⟩:Rule)]) i2).prio,((gx (u++[(⟨0,⟨zA 10,zA 10⟩,-1,[]⟩:Rule)]) i2).mat),(gx (u++[(⟨0,⟨zA 10,zA 10⟩,-1,[]⟩:Rule)]) i2).step,(gx (u++[(⟨0,⟨zA 10,zA 10⟩,-1,[]⟩:Rule)]) i2).outs⟩:Rule) am e11 ).call _),trivial⟩
    clear hh h;intro h hh;rcases isb H3 with ⟨c12,H3⟩|⟨c12,H3⟩;rotate_left
    .skip;refine cf (f2 hh c12) ?_;refine sk ?_;obtain ⟨af,e13,H3⟩:=zab H3;apply fh;refine rkc [4,8,9,10,11,12,13,14,15,16,18,19,38,39,40,45,46,47] [] [(.tup [ePat af.1,.bool af.2],stL [.cells true 10 ((zA 10).l.map (fi .i64)),.gone,.gone,.gone,.cells true 10 (x3.l.map (fi .i64)),.cells true 1 [.bool x4],.cells true 23 (fi .i64 ((gx (t++[(⟨0,⟨zA 10,zA 10⟩,-1,[]⟩:Rule)]) i).prio) :: ((((gx (t++[(⟨0,⟨zA 10,zA 10⟩,-1,[]⟩:Rule)]) i).mat).mask).l.map (fi .i64)++((((gx (t++[(⟨0,⟨zA 10,zA 10⟩,-1,[]⟩:Rule)]) i).mat).bits).l.map (fi .i64)++[fi .i64 ((gx (t++[(⟨0,⟨zA 10,zA 10⟩,-1,[]⟩:Rule)]) i).step),za6 ((gx (t++[(⟨0,⟨zA 10,zA 10⟩,-1,[]⟩:Rule)]) i).outs)]))),.cells true 23 (fi .i64 ((gx (u++[(⟨0,⟨zA 10,zA 10⟩,-1,[]⟩:Rule)]) i2).prio) :: ((((gx (u++[(⟨0,⟨zA 10,zA 10⟩,-1,[]⟩:Rule)]) i2).mat).mask).l.map (fi .i64)++((((gx (u++[(⟨0,⟨zA 10,zA 10⟩,-1,[]⟩:Rule)]) i2).mat).bits).l.map (fi .i64)++[fi .i64 ((gx (u++[(⟨0,⟨zA 10,zA 10⟩,-1,[]⟩:Rule)]) i2).step),za6 ((gx (u++[(⟨0,⟨zA 10,zA 10⟩,-1,[]⟩:Rule)]) i2).outs)])))])] (f2 hh c12) ?_ ?_
     .exact ⟨ge (ja (zr4 ax hx k ((gx (t++[(⟨0,⟨zA 10,zA 10⟩,-1,[]⟩:Rule)]) i).mat) ((gx (u++[(⟨0,⟨zA 10,zA 10⟩,-1,[]⟩:Rule)]) i2).mat) af e13 ) (by first|rfl|simp only [c12])),trivial⟩
     clear hh h;intro h hh;refine zk 18 8 20 true (af.1.mask.l.map (fi .i64)++(af.1.bits.l.map (fi .i64))) [4,8,9,10,11,12,13,14,15,16,18,19,38,39,40,45,46,47] hh fun h hh=>?_;apply fh;refine rk [4,8,9,10,11,12,13,14,15,16,18,38,39,40,45,46,47,63] [] (f2 hh c12) fun h hh=>?_;rcases isb H3 with ⟨c14,H3⟩|⟨c14,H3⟩;rotate_left
     .skip;refine cf (f2 hh c14) ?_;refine sk ?_;refine rk [4,8,9,10,11,12,13,14,15,38,39,40,45,46,47] [] (f3 hh c12 c14) fun h hh=>?_;exact rd m hh ⟨(fj.wrap (i2+1)),x3,x4,H3,kq hh,rfl⟩
     refine ct (f2 hh c14) ?_;obtain ⟨s_4,H4,H3⟩:=zab H3;apply fh;refine cu [4,8,9,10,11,12,13,14,15,20,21,38,39,40,45,46,47] 11 (fun h bs=>(h 4=.ptr 0 0 10/\h 8=zae (u++[(⟨0,⟨zA 10,zA 10⟩,-1,[]⟩:Rule)])/\h 9=.ptr 4 0 10/\h 10=.ptr 5 0 1/\h 11=.fn 75 [] [.ptr 5 0 1,.ptr 4 0 10]/\h 12=.fn 77 [zae (t++[(⟨0,⟨zA 10,zA 10⟩,-1,[]⟩:Rule)])] []/\h 13=.fn 77 [zae (u++[(⟨0,⟨zA 10,zA 10⟩,-1,[]⟩:Rule)])] []/\h 14=.int .i64 i/\h 15=.ptr 6 0 23/\h 20=.ptr 10 0 10/\h 21=.bool s_4.1/\h 38=zae (t++[(⟨0,⟨zA 10,zA 10⟩,-1,[]⟩:Rule)])/\h 39=.int .i64 ((t++[(⟨0,⟨zA 10,zA 10⟩,-1,[]⟩:Rule)]).length:Int)/\h 40=.int .i64 i/\h 45=zae (u++[(⟨0,⟨zA 10,zA 10⟩,-1,[]⟩:Rule)])/\h 46=.int .i64 ((u++[(⟨0,⟨zA 10,zA 10⟩,-1,[]⟩:Rule)]).length:Int)/\h 47=.int .i64 i2)/\bs=[.cells true 10 ((zA 10).l.map (fi .i64)),.gone,.gone,.gone,.cells true 10 (x3.l.map (fi .i64)),.cells true 1 [.bool x4],.cells true 23 (fi .i64 ((gx (t++[(⟨0,⟨zA 10,zA 10⟩,-1,[]⟩:Rule)]) i).prio) :: ((((gx (t++[(⟨0,⟨zA 10,zA 10⟩,-1,[]⟩:Rule)]) i).mat).mask).l.map (fi .i64)++((((gx (t++[(⟨0,⟨zA 10,zA 10⟩,-1,[]⟩:Rule)]) i).mat).bits).l.map (fi .i64)++[fi .i64 ((gx (t++[(⟨0,⟨zA 10,zA 10⟩,-1,[]⟩:Rule)]) i).step),za6 ((gx (t++[(⟨0,⟨zA 10,zA 10⟩,-1,[]⟩:Rule)]) i).outs)]))),.cells true 23 (fi .i64 ((gx (u++[(⟨0,⟨zA 10,zA 10⟩,-1,[]⟩:Rule)]) i2).prio) :: ((((gx (u++[(⟨0,⟨zA 10,zA 10⟩,-1,[]⟩:Rule)]) i2).mat).mask).l.map (fi .i64)++((((gx (u++[(⟨0,⟨zA 10,zA 10⟩,-1,[]⟩:Rule)]) i2).mat).bits).l.map (fi .i64)++[fi .i64 ((gx (u++[(⟨0,⟨zA 10,zA 10⟩,-1,[]⟩:Rule)]) i2).step),za6 ((gx (u++[(⟨0,⟨zA 10,zA 10⟩,-1,[]⟩:Rule)]) i2).outs)]))),.gone,.cells false (s_4.2.2.1*20) (vecC ePat s_4.2.1),.cells true 10 (s_4.2.2.2.l.map (fi .i64))]) ?_ ?_
     .skip;obtain ⟨rb,e15,H4⟩:=zab H4;obtain ⟨ac,e16,H4⟩:=zab H4;obtain ⟨g17,H4⟩:=isg H4;rcases isp H4 with ⟨c18,H4⟩|⟨c18,H4⟩;rotate_left
      .skip;obtain ⟨g21,H4⟩:=isg H4;obtain ⟨bc,e22,H4⟩:=zab H4;refine dcg 3 [18] [] [] [(.arr 9 20 0 rb.2 rb.2 (rb.2*20),stL [.cells true 10 ((zA 10).l.map (fi .i64)),.gone,.gone,.gone,.cells true 10 (x3.l.map (fi .i64)),.cells true 1 [.bool x4],.cells true 23 (fi .i64 ((gx (t++[(⟨0,⟨zA 10,zA 10⟩,-1,[]⟩:Rule)]) i).prio) :: ((((gx (t++[(⟨0,⟨zA 10,zA 10⟩,-1,[]⟩:Rule)]) i).mat).mask).l.map (fi .i64)++((((gx (t++[(⟨0,⟨zA 10,zA 10⟩,-1,[]⟩:Rule)]) i).mat).bits).l.map (fi .i64)++[fi .i64 ((gx (t++[(⟨0,⟨zA 10,zA 10⟩,-1,[]⟩:Rule)]) i).step),za6 ((gx (t++[(⟨0,⟨zA 10,zA 10⟩,-1,[]⟩:Rule)]) i).outs)]))),.cells true 23 (fi .i64 ((gx (u++[(⟨0,⟨zA 10,zA 10⟩,-1,[]⟩:Rule)]) i2).prio) :: ((((gx (u++[(⟨0,⟨zA 10,zA 10⟩,-1,[]⟩:Rule)]) i2).mat).mask).l.map (fi .i64)++((((gx (u++[(⟨0,⟨zA 10,zA 10⟩,-1,[]⟩:Rule)]) i2).mat).bits).l.map (fi .i64)++[fi .i64 ((gx (u++[(⟨0,⟨zA 10,zA 10⟩,-1,[]⟩:Rule)]) i2).step),za6 ((gx (u++[(⟨0,⟨zA 10,zA 10⟩,-1,[]⟩:Rule)]) i2).outs)]))),.gone,.cells false (rb.2*20) (vecC ePat rb.1)]),(lPat ac,stL [.cells true 10 ((zA 10).l.map (fi .i64)),.gone,.gone,.gone,.cells true 10 (x3.l.map (fi .i64)),.cells true 1 [.bool x4],.cells true 23 (fi .i64 ((gx (t++[(⟨0,⟨zA 10,zA 10⟩,-1,[]⟩:Rule)]) i).prio) :: ((((gx (t++[(⟨0,⟨zA 10,zA 10⟩,-1,[]⟩:Rule)]) i).mat).mask).l.map (fi .i64)++((((gx (t++[(⟨0,⟨zA 10,zA 10⟩,-1,[]⟩:Rule)]) i).mat).bits).l.map (fi .i64)++[fi .i64 ((gx (t++[(⟨0,⟨zA 10,zA 10⟩,-1,[]⟩:Rule)]) i).step),za6 ((gx (t++[(⟨0,⟨zA 10,zA 10⟩,-1,[]⟩:Rule)]) i).outs)]))),.cells true 23 (fi .i64 ((gx (u++[(⟨0,⟨zA 10,zA 10⟩,-1,[]⟩:Rule)]) i2).prio) :: ((((gx (u++[(⟨0,⟨zA 10,zA 10⟩,-1,[]⟩:Rule)]) i2).mat).mask).l.map (fi .i64)++((((gx (u++[(⟨0,⟨zA 10,zA 10⟩,-1,[]⟩:Rule)]) i2).mat).bits).l.map (fi .i64)++[fi .i64 ((gx (u++[(⟨0,⟨zA 10,zA 10⟩,-1,[]⟩:Rule)]) i2).step),za6 ((gx (u++[(⟨0,⟨zA 10,zA 10⟩,-1,[]⟩:Rule)]) i2).outs)]))),.gone,.cells false (rb.2*20) (vecC ePat rb.1)]),(.tup [.agg (bc.1.l.map (fi .i64)),.bool bc.2],stL [.cells true 10 ((zA 10).l.map (fi .i64)),.gone,.gone,.gone,.cells true 10 (x3.l.map (fi .i64)),.cells true 1 [.bool x4],.cells true 23 (fi .i64 ((gx (t++[(⟨0,⟨zA 10,zA 10⟩,-1,[]⟩:Rule)]) i).prio) :: ((((gx (t++[(⟨0,⟨zA 10,zA 10⟩,-1,[]⟩:Rule)]) i).mat).mask).l.map (fi .i64)++((((gx (t++[(⟨0,⟨zA 10,zA 10⟩,-1,[]⟩:Rule)]) i).mat).bits).l.map (fi .i64)++[fi .i64 ((gx (t++[(⟨0,⟨zA 10,zA 10⟩,-1,[]⟩:Rule)]) i).step),za6 ((gx (t++[(⟨0,⟨zA 10,zA 10⟩,-1,[]⟩:Rule)]) i).outs)]))),.cells true 23 (fi .i64 ((gx (u++[(⟨0,⟨zA 10,zA 10⟩,-1,[]⟩:Rule)]) i2).prio) :: ((((gx (u++[(⟨0,⟨zA 10,zA 10⟩,-1,[]⟩:Rule)]) i2).mat).mask).l.map (fi .i64)++((((gx (u++[(⟨0,⟨zA 10,zA 10⟩,-1,[]⟩:Rule)]) i2).mat).bits).l.map (fi .i64)++[fi .i64 ((gx (u++[(⟨0,⟨zA 10,zA 10⟩,-1,[]⟩:Rule)]) i2).step),za6 ((gx (u++[(⟨0,⟨zA 10,zA 10⟩,-1,[]⟩:Rule)]) i2).outs)]))),.gone,.cells false ((rb.2+ac.length)*20) (vecC ePat (rb.1++ac))])] [.cells true 10 ((zA 10).l.map (fi .i64)),.gone,.gone,.gone,.cells true 10 (x3.l.map (fi .i64)),.cells true 1 [.bool x4],.cells true 23 (fi .i64 ((gx (t++[(⟨0,⟨zA 10,zA 10⟩,-1,[]⟩:Rule)]) i).prio) :: ((((gx (t++[(⟨0,⟨zA 10,zA 10⟩,-1,[]⟩:Rule)]) i).mat).mask).l.map (fi .i64)++((((gx (t++[(⟨0,⟨zA 10,zA 10⟩,-1,[]⟩:Rule)]) i).mat).bits).l.map (fi .i64)++[fi .i64 ((gx (t++[(⟨0,⟨zA 10,zA 10⟩,-1,[]⟩:Rule)]) i).step),za6 ((gx (t++[(⟨0,⟨zA 10,zA 10⟩,-1,[]⟩:Rule)]) i).outs)]))),.cells true 23 (fi .i64 ((gx (u++[(⟨0,⟨zA 10,zA 10⟩,-1,[]⟩:Rule)]) i2).prio) :: ((((gx (u++[(⟨0,⟨zA 10,zA 10⟩,-1,[]⟩:Rule)]) i2).mat).mask).l.map (fi .i64)++((((gx (u++[(⟨0,⟨zA 10,zA 10⟩,-1,[]⟩:Rule)]) i2).mat).bits).l.map (fi .i64)++[fi .i64 ((gx (u++[(⟨0,⟨zA 10,zA 10⟩,-1,[]⟩:Rule)]) i2).step),za6 ((gx (u++[(⟨0,⟨zA 10,zA 10⟩,-1,[]⟩:Rule)]) i2).outs)]))),.gone,.cells false ((rb.2+ac.length)*20) (vecC ePat (rb.1++ac)),.cells true 10 (bc.1.l.map (fi .i64))] (fun h=>h 4=.ptr 0 0 10/\h 8=zae (u++[(⟨0,⟨zA 10,zA 10⟩,-1,[]⟩:Rule)])/\h 9=.ptr 4 0 10/\h 10=.ptr 5 0 1/\h 11=.fn 75 [] [.ptr 5 0 1,.ptr 4 0 10]/\h 12=.fn 77 [zae (t++[(⟨0,⟨zA 10,zA 10⟩,-1,[]⟩:Rule)])] []/\h 13=.fn 77 [zae (u++[(⟨0,⟨zA 10,zA 10⟩,-1,[]⟩:Rule)])] []/\h 14=.int .i64 i/\h 15=.ptr 6 0 23/\h 20=.ptr 10 0 10/\h 21=.bool bc.2/\h 38=zae (t++[(⟨0,⟨zA 10,zA 10⟩,-1,[]⟩:Rule)])/\h 39=.int .i64 ((t++[(⟨0,⟨zA 10,zA 10⟩,-1,[]⟩:Rule)]).length:Int)/\h 40=.int .i64 i/\h 45=zae (u++[(⟨0,⟨zA 10,zA 10⟩,-1,[]⟩:Rule)])/\h 46=.int .i64 ((u++[(⟨0,⟨zA 10,zA 10⟩,-1,[]⟩:Rule)]).length:Int)/\h 47=.int .i64 i2) (f3 hh c12 (f3 c14 (zgv ePat ac) (f2 (zby (f:=ePat) (e:=20) (fun x=>za3 x) ac) (ze2 (f:=ePat) (fun x=>zoh x) ac)))) trivial ?_ ?_
       .exact ⟨car [9] (zhm ax hx k (t++[(⟨0,⟨zA 10,zA 10⟩,-1,[]⟩:Rule)]) i rb e15),ge (ja (zh9 ax hx k (u++[(⟨0,⟨zA 10,zA 10⟩,-1,[]⟩:Rule)]) i2 ac e16 ) (by first|rfl|simp only [c12,c14])),(by have q:=ge (Pure.lend (S:=stL [.cells true 10 ((zA 10).l.map (fi .i64)),.gone,.gone,.gone,.cells true 10 (x3.l.map (fi .i64)),.cells true 1 [.bool x4],.cells true 23 (fi .i64 ((gx (t++[(⟨0,⟨zA 10,zA 10⟩,-1,[]⟩:Rule)]) i).prio) :: ((((gx (t++[(⟨0,⟨zA 10,zA 10⟩,-1,[]⟩:Rule)]) i).mat).mask).l.map (fi .i64)++((((gx (t++[(⟨0,⟨zA 10,zA 10⟩,-1,[]⟩:Rule)]) i).mat).bits).l.map (fi .i64)++[fi .i64 ((gx (t++[(⟨0,⟨zA 10,zA 10⟩,-1,[]⟩:Rule)]) i).step),za6 ((gx (t++[(⟨0,⟨zA 10,zA 10⟩,-1,[]⟩:Rule)]) i).outs)]))),.cells true 23 (fi .i64 ((gx (u++[(⟨0,⟨zA 10,zA 10⟩,-1,[]⟩:Rule)]) i2).prio) :: ((((gx (u++[(⟨0,⟨zA 10,zA 10⟩,-1,[]⟩:Rule)]) i2).mat).mask).l.map (fi .i64)++((((gx (u++[(⟨0,⟨zA 10,zA 10⟩,-1,[]⟩:Rule)]) i2).mat).bits).l.map (fi .i64)++[fi .i64 ((gx (u++[(⟨0,⟨zA 10,zA 10⟩,-1,[]⟩:Rule)]) i2).step),za6 ((gx (u++[(⟨0,⟨zA 10,zA 10⟩,-1,[]⟩:Rule)]) i2).outs)]))),.gone,.cells false ((rb.2+ac.length)*20) (vecC ePat (rb.1++ac))]) (args:=[ePat af.1,.arr 9 20 0 (rb.2+ac.length) (rb.2+ac.length) ((rb.2+ac.length)*20)]) (zmr ax hx k af.1 (rb.1++ac) bc e22 ) (fe (Or.inl rfl) (fe (zta (fun x=>za3 x) (by decide) (by rfl) g21) (trivial))) (by first|rfl | (simp only [tupT,T.flat,T.flatL,zvo,zjb,gd];done)));(try simp only [c12,c14] at q);first|exact q | (simp only [jv,n8,zaw] at q ⊢;exact q)),trivial⟩
       clear hh h;intro h hh;cases H4;exact ce hh ⟨kq hh,rfl⟩
      obtain ⟨g19,H4⟩:=isg H4;obtain ⟨az,e20,H4⟩:=zab H4;refine dcg 3 [18] [] [] [(.arr 9 20 0 rb.2 rb.2 (rb.2*20),stL [.cells true 10 ((zA 10).l.map (fi .i64)),.gone,.gone,.gone,.cells true 10 (x3.l.map (fi .i64)),.cells true 1 [.bool x4],.cells true 23 (fi .i64 ((gx (t++[(⟨0,⟨zA 10,zA 10⟩,-1,[]⟩:Rule)]) i).prio) :: ((((gx (t++[(⟨0,⟨zA 10,zA 10⟩,-1,[]⟩:Rule)]) i).mat).mask).l.map (fi .i64)++((((gx (t++[(⟨0,⟨zA 10,zA 10⟩,-1,[]⟩:Rule)]) i).mat).bits).l.map (fi .i64)++[fi .i64 ((gx (t++[(⟨0,⟨zA 10,zA 10⟩,-1,[]⟩:Rule)]) i).step),za6 ((gx (t++[(⟨0,⟨zA 10,zA 10⟩,-1,[]⟩:Rule)]) i).outs)]))),.cells true 23 (fi .i64 ((gx (u++[(⟨0,⟨zA 10,zA 10⟩,-1,[]⟩:Rule)]) i2).prio) :: ((((gx (u++[(⟨0,⟨zA 10,zA 10⟩,-1,[]⟩:Rule)]) i2).mat).mask).l.map (fi .i64)++((((gx (u++[(⟨0,⟨zA 10,zA 10⟩,-1,[]⟩:Rule)]) i2).mat).bits).l.map (fi .i64)++[fi .i64 ((gx (u++[(⟨0,⟨zA 10,zA 10⟩,-1,[]⟩:Rule)]) i2).step),za6 ((gx (u++[(⟨0,⟨zA 10,zA 10⟩,-1,[]⟩:Rule)]) i2).outs)]))),.gone,.cells false (rb.2*20) (vecC ePat rb.1)]),(lPat ac,stL [.cells true 10 ((zA 10).l.map (fi .i64)),.gone,.gone,.gone,.cells true 10 (x3.l.map (fi .i64)),.cells true 1 [.bool x4],.cells true 23 (fi .i64 ((gx (t++[(⟨0,⟨zA 10,zA 10⟩,-1,[]⟩:Rule)]) i).prio) :: ((((gx (t++[(⟨0,⟨zA 10,zA 10⟩,-1,[]⟩:Rule)]) i).mat).mask).l.map (fi .i64)++((((gx (t++[(⟨0,⟨zA 10,zA 10⟩,-1,[]⟩:Rule)]) i).mat).bits).l.map (fi .i64)++[fi .i64 ((gx (t++[(⟨0,⟨zA 10,zA 10⟩,-1,[]⟩:Rule)]) i).step),za6 ((gx (t++[(⟨0,⟨zA 10,zA 10⟩,-1,[]⟩:Rule)]) i).outs)]))),.cells true 23 (fi .i64 ((gx (u++[(⟨0,⟨zA 10,zA 10⟩,-1,[]⟩:Rule)]) i2).prio) :: ((((gx (u++[(⟨0,⟨zA 10,zA 10⟩,-1,[]⟩:Rule)]) i2).mat).mask).l.map (fi .i64)++((((gx (u++[(⟨0,⟨zA 10,zA 10⟩,-1,[]⟩:Rule)]) i2).mat).bits).l.map (fi .i64)++[fi .i64 ((gx (u++[(⟨0,⟨zA 10,zA 10⟩,-1,[]⟩:Rule)]) i2).step),za6 ((gx (u++[(⟨0,⟨zA 10,zA 10⟩,-1,[]⟩:Rule)]) i2).outs)]))),.gone,.cells false (rb.2*20) (vecC ePat rb.1)]),(.tup [.agg (az.1.l.map (fi .i64)),.bool az.2],stL [.cells true 10 ((zA 10).l.map (fi .i64)),.gone,.gone,.gone,.cells true 10 (x3.l.map (fi .i64)),.cells true 1 [.bool x4],.cells true 23 (fi .i64 ((gx (t++[(⟨0,⟨zA 10,zA 10⟩,-1,[]⟩:Rule)]) i).prio) :: ((((gx (t++[(⟨0,⟨zA 10,zA 10⟩,-1,[]⟩:Rule)]) i).mat).mask).l.map (fi .i64)++((((gx (t++[(⟨0,⟨zA 10,zA 10⟩,-1,[]⟩:Rule)]) i).mat).bits).l.map (fi .i64)++[fi .i64 ((gx (t++[(⟨0,⟨zA 10,zA 10⟩,-1,[]⟩:Rule)]) i).step),za6 ((gx (t++[(⟨0,⟨zA 10,zA 10⟩,-1,[]⟩:Rule)]) i).outs)]))),.cells true 23 (fi .i64 ((gx (u++[(⟨0,⟨zA 10,zA 10⟩,-1,[]⟩:Rule)]) i2).prio) :: ((((gx (u++[(⟨0,⟨zA 10,zA 10⟩,-1,[]⟩:Rule)]) i2).mat).mask).l.map (fi .i64)++((((gx (u++[(⟨0,⟨zA 10,zA 10⟩,-1,[]⟩:Rule)]) i2).mat).bits).l.map (fi .i64)++[fi .i64 ((gx (u++[(⟨0,⟨zA 10,zA 10⟩,-1,[]⟩:Rule)]) i2).step),za6 ((gx (u++[(⟨0,⟨zA 10,zA 10⟩,-1,[]⟩:Rule)]) i2).outs)]))),.gone,.cells false (rb.2*20) (vecC ePat rb.1)])] [.cells true 10 ((zA 10).l.map (fi .i64)),.gone,.gone,.gone,.cells true 10 (x3.l.map (fi .i64)),.cells true 1 [.bool x4],.cells true 23 (fi .i64 ((gx (t++[(⟨0,⟨zA 10,zA 10⟩,-1,[]⟩:Rule)]) i).prio) :: ((((gx (t++[(⟨0,⟨zA 10,zA 10⟩,-1,[]⟩:Rule)]) i).mat).mask).l.map (fi .i64)++((((gx (t++[(⟨0,⟨zA 10,zA 10⟩,-1,[]⟩:Rule)]) i).mat).bits).l.map (fi .i64)++[fi .i64 ((gx (t++[(⟨0,⟨zA 10,zA 10⟩,-1,[]⟩:Rule)]) i).step),za6 ((gx (t++[(⟨0,⟨zA 10,zA 10⟩,-1,[]⟩:Rule)]) i).outs)]))),.cells true 23 (fi .i64 ((gx (u++[(⟨0,⟨zA 10,zA 10⟩,-1,[]⟩:Rule)]) i2).prio) :: ((((gx (u++[(⟨0,⟨zA 10,zA 10⟩,-1,[]⟩:Rule)]) i2).mat).mask).l.map (fi .i64)++((((gx (u++[(⟨0,⟨zA 10,zA 10⟩,-1,[]⟩:Rule)]) i2).mat).bits).l.map (fi .i64)++[fi .i64 ((gx (u++[(⟨0,⟨zA 10,zA 10⟩,-1,[]⟩:Rule)]) i2).step),za6 ((gx (u++[(⟨0,⟨zA 10,zA 10⟩,-1,[]⟩:Rule)]) i2).outs)]))),.gone,.cells false (rb.2*20) (vecC ePat rb.1),.cells true 10 (az.1.l.map (fi .i64))] (fun h=>h 4=.ptr 0 0 10/\h 8=zae (u++[(⟨0,⟨zA 10,zA 10⟩,-1,[]⟩:Rule)])/\h 9=.ptr 4 0 10/\h 10=.ptr 5 0 1/\h 11=.fn 75 [] [.ptr 5 0 1,.ptr 4 0 10]/\h 12=.fn 77 [zae (t++[(⟨0,⟨zA 10,zA 10⟩,-1,[]⟩:Rule)])] []/\h 13=.fn 77 [zae (u++[(⟨0,⟨zA 10,zA 10⟩,-1,[]⟩:Rule)])] []/\h 14=.int .i64 i/\h 15=.ptr 6 0 23/\h 20=.ptr 10 0 10/\h 21=.bool az.2/\h 38=zae (t++[(⟨0,⟨zA 10,zA 10⟩,-1,[]⟩:Rule)])/\h 39=.int .i64 ((t++[(⟨0,⟨zA 10,zA 10⟩,-1,[]⟩:Rule)]).length:Int)/\h 40=.int .i64 i/\h 45=zae (u++[(⟨0,⟨zA 10,zA 10⟩,-1,[]⟩:Rule)])/\h 46=.int .i64 ((u++[(⟨0,⟨zA 10,zA 10⟩,-1,[]⟩:Rule)]).length:Int)/\h 47=.int .i64 i2) (f3 hh c12 (f3 c14 c18 (f3 (zgv ePat ac) (zby (f:=ePat) (e:=20) (fun x=>za3 x) ac) (ze2 (f:=ePat) (fun x=>zoh x) ac)))) trivial ?_ ?_
      .exact ⟨car [9] (zhm ax hx k (t++[(⟨0,⟨zA 10,zA 10⟩,-1,[]⟩:Rule)]) i rb e15),ge (ja (zh9 ax hx k (u++[(⟨0,⟨zA 10,zA 10⟩,-1,[]⟩:Rule)]) i2 ac e16 ) (by first|rfl|simp only [c12,c14])),(by have q:=ge (Pure.lend (S:=stL [.cells true 10 ((zA 10).l.map (fi .i64)),.gone,.gone,.gone,.cells true 10 (x3.l.map (fi .i64)),.cells true 1 [.bool x4],.cells true 23 (fi .i64 ((gx (t++[(⟨0,⟨zA 10,zA 10⟩,-1,[]⟩:Rule)]) i).prio) :: ((((gx (t++[(⟨0,⟨zA 10,zA 10⟩,-1,[]⟩:Rule)]) i).mat).mask).l.map (fi .i64)++((((gx (t++[(⟨0,⟨zA 10,zA 10⟩,-1,[]⟩:Rule)]) i).mat).bits).l.map (fi .i64)++[fi .i64 ((gx (t++[(⟨0,⟨zA 10,zA 10⟩,-1,[]⟩:Rule)]) i).step),za6 ((gx (t++[(⟨0,⟨zA 10,zA 10⟩,-1,[]⟩:Rule)]) i).outs)]))),.cells true 23 (fi .i64 ((gx (u++[(⟨0,⟨zA 10,zA 10⟩,-1,[]⟩:Rule)]) i2).prio) :: ((((gx (u++[(⟨0,⟨zA 10,zA 10⟩,-1,[]⟩:Rule)]) i2).mat).mask).l.map (fi .i64)++((((gx (u++[(⟨0,⟨zA 10,zA 10⟩,-1,[]⟩:Rule)]) i2).mat).bits).l.map (fi .i64)++[fi .i64 ((gx (u++[(⟨0,⟨zA 10,zA 10⟩,-1,[]⟩:Rule)]) i2).step),za6 ((gx (u++[(⟨0,⟨zA 10,zA 10⟩,-1,[]⟩:Rule)]) i2).outs)]))),.gone,.cells false (rb.2*20) (vecC ePat rb.1)]) (args:=[ePat af.1,.arr 9 20 0 rb.2 rb.2 (rb.2*20)]) (zmr ax hx k af.1 rb.1 az e20 ) (fe (Or.inl rfl) (fe (zta (fun x=>za3 x) (by decide) (by rfl) g19) (trivial))) (by first|rfl | (simp only [tupT,T.flat,T.flatL,zvo,zjb,gd];done)));(try simp only [c12,c14] at q);first|exact q | (simp only [jv,n8,zaw] at q ⊢;exact q)),trivial⟩
      clear hh h;intro h hh;cases H4;exact ce hh ⟨kq hh,rfl⟩
     clear hh h;rintro h bs ⟨hh,rfl⟩;apply fh;refine rk [4,8,9,10,11,12,13,14,15,20,38,39,40,45,46,47,76] [] (f3 hh c12 c14) fun h hh=>?_;rcases isb H3 with ⟨c23,H3⟩|⟨c23,H3⟩;rotate_left
     .skip;refine cf (f2 hh c23) ?_;refine sk ?_;refine rk [4,8,9,10,11,12,13,14,15,38,39,40,45,46,47] [] (f3 hh c12 (f2 c14 c23)) fun h hh=>?_;exact rd m hh ⟨(fj.wrap (i2+1)),x3,x4,H3,kq hh,rfl⟩
     refine ct (f2 hh c23) ?_;obtain ⟨rb2,e24,H3⟩:=zab H3;refine rkc [4,8,9,10,11,12,13,14,15,38,39,40,45,46,47] [] [(.tup [],stL [.cells true 10 ((zA 10).l.map (fi .i64)),.gone,.gone,.gone,.cells true 10 (rb2.2.l.map (fi .i64)),.cells true 1 [.bool rb2.1],.cells true 23 (fi .i64 ((gx (t++[(⟨0,⟨zA 10,zA 10⟩,-1,[]⟩:Rule)]) i).prio) :: ((((gx (t++[(⟨0,⟨zA 10,zA 10⟩,-1,[]⟩:Rule)]) i).mat).mask).l.map (fi .i64)++((((gx (t++[(⟨0,⟨zA 10,zA 10⟩,-1,[]⟩:Rule)]) i).mat).bits).l.map (fi .i64)++[fi .i64 ((gx (t++[(⟨0,⟨zA 10,zA 10⟩,-1,[]⟩:Rule)]) i).step),za6 ((gx (t++[(⟨0,⟨zA 10,zA 10⟩,-1,[]⟩:Rule)]) i).outs)]))),.cells true 23 (fi .i64 ((gx (u++[(⟨0,⟨zA 10,zA 10⟩,-1,[]⟩:Rule)]) i2).prio) :: ((((gx (u++[(⟨0,⟨zA 10,zA 10⟩,-1,[]⟩:Rule)]) i2).mat).mask).l.map (fi .i64)++((((gx (u++[(⟨0,⟨zA 10,zA 10⟩,-1,[]⟩:Rule)]) i2).mat).bits).l.map (fi .i64)++[fi .i64 ((gx (u++[(⟨0,⟨zA 10,zA 10⟩,-1,[]⟩:Rule)]) i2).step),za6 ((gx (u++[(⟨0,⟨zA 10,zA 10⟩,-1,[]⟩:Rule)]) i2).outs)]))),.gone,.cells false (s_4.2.2.1*20) (vecC ePat s_4.2.1),.cells true 10 (s_4.2.2.2.l.map (fi .i64))])] (f3 hh c12 (f2 c14 c23)) ?_ ?_
     .exact ⟨ca [5,4] (zo7 ax hx k s_4.2.2.2 x4 x3 rb2 e24),trivial⟩
     clear hh h;intro h hh;refine rk [4,8,9,10,11,12,13,14,15,38,39,40,45,46,47] [] (f3 hh c12 (f2 c14 c23)) fun h hh=>?_;exact rd m hh ⟨(fj.wrap (i2+1)),rb2.2,rb2.1,H3,kq hh,rfl⟩
    refine ct (f2 hh c12) ?_;refine xk ?_;refine rk [4,8,9,10,11,12,13,14,15,38,39,40,45,46,47] [] (f2 hh c12) fun h hh=>?_;exact rd m hh ⟨(fj.wrap (i2+1)),x3,x4,H3,kq hh,rfl⟩
   clear hh h;rintro h bs ⟨hh,rfl⟩;cases H2;exact ce hh ⟨kq hh,rfl⟩
  clear hh h;rintro h bs ⟨hh,rfl⟩;refine rk [4,8,9,10,11,12,13,38,39,40] [] hh fun h hh=>?_;exact rd m hh ⟨(fj.wrap (i+1)),s_2.1,s_2.2,H1,kq hh,rfl⟩
 clear hh h;rintro h bs ⟨hh,rfl⟩;apply fh;refine ds 3 [(4,some 0),(10,some 5)] [4,5] [] [] [] hh trivial trivial fun h hh=>?_;cases H;exact rtc hh
def zfb (k:Nat) (i:Int):Nat->Int->Int->Option Int
 |0,_,_=>none
 |m+1,v_,k_=>(if 0<=i/\0<16 then (if k_<(i % 16) then (if 0<=v_/\0<2 then zfb k i m (fj.wrap (v_ / 2)) (fj.wrap (k_+1)) else none) else some v_) else none)
def zjz (k:Nat) (i:Int):Option Int:=((zfb k i k 32768 0:Option Int).bind fun s_=>some s_)
theorem zpw (ax:Axs) (hx:NoAx ax) (k:Nat) (i:Int) (v:Int) (H:zjz k i=some v):Pure Try.prog (EE ax) [] 73 [.int .i64 i] (.int .i64 v):=by
 rw [zjz] at H;refine en [.tmp 2] 14 [0] (hx.no _ (by decide)) (fn73 ax) ?_;intro h hh;apply fh;refine rk [0] [] hh fun h hh=>?_;apply fh;refine rk [0,3] [] hh fun h hh=>?_;repeat apply fh
 refine rk [0,3,4] [] hh fun h hh=>?_;obtain ⟨s_,H1,H⟩:=zab H;refine cu [3] 0 (fun h bs=>(h 3=.int .i64 s_)/\bs=[]) ?_ ?_
 .skip;apply gr;refine jo [0,3,4] (fun m h bs=>∃ (v_:Int) (k_:Int),zfb k i m v_ k_=some s_/\(h 0=.int .i64 i/\h 3=.int .i64 v_/\h 4=.int .i64 k_)/\bs=[]) ?_ k _ _ ?_;rotate_left
  .exact ⟨32768,0,H1,kq hh,rfl⟩
  clear hh h H1;rintro m h bs ⟨v_,k_,H1,hh,rfl⟩;rcases m with _|m
  .rw [zfb] at H1;cases H1
  rw [zfb] at H1;obtain ⟨g1,H1⟩:=isg H1;repeat apply fh
  refine rk [0,3,4,8] [] hh fun h hh=>?_;rcases isp H1 with ⟨c2,H1⟩|⟨c2,H1⟩;rotate_left
  .skip;refine cf (f2 hh (zAb c2)) ?_;refine xk ?_;cases H1;exact ce hh ⟨kq hh,rfl⟩
  refine ct (f2 hh (zAa c2)) ?_;refine sk ?_;apply fh;apply gr;obtain ⟨g3,H1⟩:=isg H1;refine rk [0,3,4] [] hh fun h hh=>?_;refine rk [0,3,4] [] hh fun h hh=>?_;exact rd m hh ⟨(fj.wrap (v_ / 2)),(fj.wrap (k_+1)),H1,kq hh,rfl⟩
 clear hh h;rintro h bs ⟨hh,rfl⟩;apply fh;refine rk [2] [] hh fun h hh=>?_;cases H;exact rt hh
def zdv (k:Nat) (h_:Ar 10) (i:Int):Option Int:=(if 0<=i/\0<16 then (if (0:Int)<=(fj.wrap (i / 16))/\(fj.wrap (i / 16))<(10:Int) then ((zjz k i).bind fun aq=>(if (0:Int)<=(gx h_.l (fj.wrap (i / 16)))/\0<aq then (if (0:Int)<=(fj.wrap ((gx h_.l (fj.wrap (i / 16))) / aq))/\0<2 then some ((fj.wrap ((gx h_.l (fj.wrap (i / 16))) / aq)) % 2) else none) else none)) else none) else none)
theorem zbm (ax:Axs) (hx:NoAx ax) (k:Nat) (h_:Ar 10) (i:Int) (v:Int) (H:zdv k h_ i=some v):Pure Try.prog (EE ax) [] 56 [.agg (h_.l.map (fi .i64)),.int .i64 i] (.int .i64 v):=by
 rw [zdv] at H;refine en [.tmp 4] 13 [0,1] (hx.no _ (by decide)) (fn56 ax) ?_;intro h hh;apply fh;refine rk [1,2] [] hh fun h hh=>?_;obtain ⟨g1,H⟩:=isg H;obtain ⟨g2,H⟩:=isg H;obtain ⟨aq,e3,H⟩:=zab H;obtain ⟨g4,H⟩:=isg H;obtain ⟨g5,H⟩:=isg H;apply fh;refine dk 6 [4] [.int .i64 aq] [] [] (f2 hh (arIx h_ g2)) ?_ trivial ?_
 .exact ⟨(zpw ax hx k i aq e3 ).call _,trivial⟩
 clear hh h;intro h hh;cases H;exact rt hh
def zb5 (k:Nat) (h_:Ar 10):Nat->Int->Option (Bool ⊕ Unit)
 |0,_=>none
 |m+1,i=>(if i<10 then (if 0<=i/\i<(10:Int) then (if (gx h_.l i)<0 then some (.inl false) else (if 65535<(gx h_.l i) then some (.inl false) else zb5 k h_ m (fj.wrap (i+1)))) else none) else some (.inr ()))
def zfl (k:Nat) (h_:Ar 10):Option Bool:=((zb5 k h_ k 0:Option (Bool ⊕ Unit)).bind fun o=>kx (fun r=>some r) (fun s_=>some true) o)
theorem zlk (ax:Axs) (hx:NoAx ax) (k:Nat) (h_:Ar 10) (v:Bool) (H:zfl k h_=some v):Pure Try.prog (EE ax) [] 24 [.agg (h_.l.map (fi .i64))] (.bool v):=by
 rw [zfl] at H;refine en [.tmp 2] 18 [0] (hx.no _ (by decide)) (fn24 ax) ?_;intro h hh;apply fh;refine rk [1] [] hh fun h hh=>?_;repeat apply fh
 refine rk [1,3] [] hh fun h hh=>?_;obtain ⟨o,H1,H⟩:=zab H;refine cu [] 1 (fun h bs=>∃ s_:Unit,o=.inr s_/\(True)/\bs=[.cells true 10 (h_.l.map (fi .i64))]) ?_ ?_
 .skip;apply gr;refine jo [1,3] (fun m h bs=>∃ (i:Int),zb5 k h_ m i=some o/\(h 1=.ptr 0 0 10/\h 3=.int .i64 i)/\bs=[.cells true 10 (h_.l.map (fi .i64))]) ?_ k _ _ ?_;rotate_left
  .exact ⟨0,H1,kq hh,rfl⟩
  clear hh h H1;rintro m h bs ⟨i,H1,hh,rfl⟩;rcases m with _|m
  .rw [zb5] at H1;cases H1
  rw [zb5] at H1;repeat apply fh
  refine rk [1,3,5] [] hh fun h hh=>?_;rcases isp H1 with ⟨c1,H1⟩|⟨c1,H1⟩;rotate_left
  .skip;refine cf (f2 hh (zAb c1)) ?_;refine xk ?_;cases H1;exact ce hh ⟨_,rfl,kq hh,rfl⟩
  refine ct (f2 hh (zAa c1)) ?_;refine sk ?_;apply fh;apply gr;obtain ⟨g2,H1⟩:=isg H1;rcases isp H1 with ⟨c3,H1⟩|⟨c3,H1⟩;rotate_left
  .skip;apply fh;refine rk [1,3,17] [] (f3 hh (zAb c3) (arIx h_ g2)) fun h hh=>?_;rcases isp H1 with ⟨c4,H1⟩|⟨c4,H1⟩;rotate_left
   .skip;refine cf (f2 hh (zAb c4)) ?_;refine sk ?_;refine rk [1,3] [] hh fun h hh=>?_;exact rd m hh ⟨(fj.wrap (i+1)),H1,kq hh,rfl⟩
   refine ct (f2 hh (zAa c4)) ?_;apply fh;refine rk [2] [] hh fun h hh=>?_;cases H1;obtain rfl:=sinl H;exact rt hh
  apply fh;refine rk [1,3,17] [] (f3 hh (zAa c3) (arIx h_ g2)) fun h hh=>?_;refine ct hh ?_;apply fh;refine rk [2] [] hh fun h hh=>?_;cases H1;obtain rfl:=sinl H;exact rt hh
 clear hh h;rintro h bs ⟨s_,rfl,hh,rfl⟩;replace H:=sinr H;apply fh;refine rk [2] [] hh fun h hh=>?_;cases H;exact rt hh
def zdl (k:Nat) (b:Ar 10) (m_:Ar 10):Nat->Int->Option (Bool ⊕ Unit)
 |0,_=>none
 |m+1,i=>(if i<10 then (if 0<=i/\i<(10:Int) then (if (iAnd .i64 (gx b.l i) (gx m_.l i))≠(gx b.l i) then some (.inl false) else zdl k b m_ m (fj.wrap (i+1))) else none) else some (.inr ()))
def zj5 (k:Nat) (b:Ar 10) (m_:Ar 10):Option Bool:=((zdl k b m_ k 0:Option (Bool ⊕ Unit)).bind fun o=>kx (fun r=>some r) (fun s_=>some true) o)
theorem zwk (ax:Axs) (hx:NoAx ax) (k:Nat) (b:Ar 10) (m_:Ar 10) (v:Bool) (H:zj5 k b m_=some v):Pure Try.prog (EE ax) [] 79 [.agg (b.l.map (fi .i64)),.agg (m_.l.map (fi .i64))] (.bool v):=by
 rw [zj5] at H;refine en [.tmp 4] 21 [0,1] (hx.no _ (by decide)) (fn79 ax) ?_;intro h hh;apply fh;refine rk [2,3] [] hh fun h hh=>?_;repeat apply fh
 refine rk [2,3,5] [] hh fun h hh=>?_;obtain ⟨o,H1,H⟩:=zab H;refine cu [] 2 (fun h bs=>∃ s_:Unit,o=.inr s_/\(True)/\bs=[.cells true 10 (b.l.map (fi .i64)),.cells true 10 (m_.l.map (fi .i64))]) ?_ ?_
 .skip;apply gr;refine jo [2,3,5] (fun m h bs=>∃ (i:Int),zdl k b m_ m i=some o/\(h 2=.ptr 0 0 10/\h 3=.ptr 1 0 10/\h 5=.int .i64 i)/\bs=[.cells true 10 (b.l.map (fi .i64)),.cells true 10 (m_.l.map (fi .i64))]) ?_ k _ _ ?_;rotate_left
  .exact ⟨0,H1,kq hh,rfl⟩
  clear hh h H1;rintro m h bs ⟨i,H1,hh,rfl⟩;rcases m with _|m
  .rw [zdl] at H1;cases H1
  rw [zdl] at H1;repeat apply fh
  refine rk [2,3,5,7] [] hh fun h hh=>?_;rcases isp H1 with ⟨c1,H1⟩|⟨c1,H1⟩;rotate_left
  .skip;refine cf (f2 hh (zAb c1)) ?_;refine xk ?_;cases H1;exact ce hh ⟨_,rfl,kq hh,rfl⟩
  refine ct (f2 hh (zAa c1)) ?_;refine sk ?_;apply fh;apply gr;obtain ⟨g2,H1⟩:=isg H1;apply fh;refine dk 10 [2,3,5,20] [] [] [] (f3 hh (arIx b g2) (arIx m_ g2)) trivial trivial fun h hh=>?_;rcases isp H1 with ⟨c3,H1⟩|⟨c3,H1⟩;rotate_left
  .skip;refine cf (f2 hh (zAb c3)) ?_;refine sk ?_;refine rk [2,3,5] [] hh fun h hh=>?_;exact rd m hh ⟨(fj.wrap (i+1)),H1,kq hh,rfl⟩
  refine ct (f2 hh (zAa c3)) ?_;apply fh;refine rk [4] [] hh fun h hh=>?_;cases H1;obtain rfl:=sinl H;exact rt hh
 clear hh h;rintro h bs ⟨s_,rfl,hh,rfl⟩;replace H:=sinr H;apply fh;refine rk [4] [] hh fun h hh=>?_;cases H;exact rt hh
def zih (k:Nat) (p:Pat):Option Bool:=((zfl k p.mask).bind fun dz=>((zfl k p.bits).bind fun d6=>(if dz=true then (if d6=true then ((zj5 k p.bits p.mask).bind fun d7=>some d7) else some false) else some false)))
theorem zl2 (ax:Axs) (hx:NoAx ax) (k:Nat) (p:Pat) (v:Bool) (H:zih k p=some v):Pure Try.prog (EE ax) [] 61 [ePat p] (.bool v):=by
 rw [zih] at H;refine en [.tmp 2] 22 [0] (hx.no _ (by decide)) (fn61 ax) ?_;intro h hh;apply fh;refine rk [1] [] hh fun h hh=>?_;obtain ⟨dz,e1,H⟩:=zab H;apply fh;refine rkp [1,3] [] [.bool dz] hh ?_ ?_
 .exact ⟨ge ((zlk ax hx k p.mask dz e1 ).call _),trivial⟩
 clear hh h;intro h hh;obtain ⟨d6,e2,H⟩:=zab H;apply fh;refine rkp [1,3,4] [] [.bool d6] hh ?_ ?_
 .exact ⟨ge ((zlk ax hx k p.bits d6 e2 ).call _),trivial⟩
 clear hh h;intro h hh;rcases isb H with ⟨c3,H⟩|⟨c3,H⟩;rotate_left
 .skip;apply fh;refine rk [2] [] (f2 hh c3) fun h hh=>?_;cases H;exact rt hh
 rcases isb H with ⟨c4,H⟩|⟨c4,H⟩;rotate_left
 .skip;apply fh;refine rk [2] [] (f3 hh c3 c4) fun h hh=>?_;cases H;exact rt hh
 obtain ⟨d7,e5,H⟩:=zab H;apply fh;refine rkp [2] [] [.bool d7] (f3 hh c3 c4) ?_ ?_
 .exact ⟨ge (ja (zwk ax hx k p.bits p.mask d7 e5 ) (by first|rfl|simp only [c3,c4])),trivial⟩
 clear hh h;intro h hh;cases H;exact rt hh
def zhy (k:Nat) (m_:Pat):Option Bool:=((zih k (⟨m_.mask,m_.bits⟩:Pat)).bind fun bk=>some bk)
theorem zsr (ax:Axs) (hx:NoAx ax) (k:Nat) (m_:Pat) (v:Bool) (H:zhy k m_=some v):Pure Try.prog (EE ax) [] 62 [ePat m_] (.bool v):=by
 rw [zhy] at H;refine en [.tmp 2] 9 [0] (hx.no _ (by decide)) (fn62 ax) ?_;intro h hh;apply fh;refine rk [1] [] hh fun h hh=>?_;obtain ⟨bk,e1,H⟩:=zab H;apply fh;refine rkp [2] [] [.bool bk] hh ?_ ?_
 .exact ⟨ge ((zl2 ax hx k (⟨m_.mask,m_.bits⟩:Pat) bk e1 ).call _),trivial⟩
 clear hh h;intro h hh;cases H;exact rt hh
def zec (k:Nat) (t:List Rule) (k_:Int):Nat->Int->(List Pat)->Nat->Option (List Pat×Nat)
 |0,_,_,_=>none
 |m+1,i,l,n=>(if i<k_ then (if 0<=i/\i<(t.length:Int) then (if (n+1)*161<=1000000000 then zec k t k_ m (fj.wrap (i+1)) (l++[(gx t i).mat]) (n+1) else none) else none) else some (l,n))
def zhb (k:Nat) (t:List Rule) (k_:Int):Option (List Pat):=((zec k t k_ k 0 [] 0:Option (List Pat×Nat)).bind fun s_=>(if s_.1.length=s_.2 then some s_.1 else none))
theorem zkw (ax:Axs) (hx:NoAx ax) (k:Nat) (t:List Rule) (k_:Int) (v:List Pat) (H:zhb k t k_=some v):Pure Try.prog (EE ax) [] 44 [zae t,.int .i64 k_] (lPat v):=by
 rw [zhb] at H;refine en [.tmp 4] 21 [0,1] (hx.no _ (by decide)) (fn44 ax) ?_;intro h hh;apply fh;refine rk [0,1] [] hh fun h hh=>?_;apply fh;refine rk [0,1,5] [] hh fun h hh=>?_;refine vk 5 20 [0,1,5] hh fun h hh=>?_;repeat apply fh
 refine rk [0,1,5,6] [] hh fun h hh=>?_;obtain ⟨s_,H1,H⟩:=zab H;refine cu [5] 1 (fun h bs=>(h 5=.arr 0 20 0 s_.2 s_.2 (s_.2*20))/\bs=[.cells false (s_.2*20) (vecC ePat s_.1)]) ?_ ?_
 .skip;apply gr;refine jo [0,1,5,6] (fun m h bs=>∃ (i:Int) (l:List Pat) (n:Nat),zec k t k_ m i l n=some s_/\(h 0=zae t/\h 1=.int .i64 k_/\h 5=.arr 0 20 0 n n (n*20)/\h 6=.int .i64 i)/\bs=[.cells false (n*20) (vecC ePat l)]) ?_ k _ _ ?_;rotate_left
  .exact ⟨0,[],0,H1,kq hh,rfl⟩
  clear hh h H1;rintro m h bs ⟨i,l,n,H1,hh,rfl⟩;rcases m with _|m
  .rw [zec] at H1;cases H1
  rw [zec] at H1;repeat apply fh
  refine rk [0,1,5,6,9] [] hh fun h hh=>?_;rcases isp H1 with ⟨c1,H1⟩|⟨c1,H1⟩;rotate_left
  .skip;refine cf (f2 hh (zAb c1)) ?_;refine xk ?_;cases H1;exact ce hh ⟨kq hh,rfl⟩
  refine ct (f2 hh (zAa c1)) ?_;refine sk ?_;apply fh;apply gr;obtain ⟨g2,H1⟩:=isg H1;obtain ⟨g3,H1⟩:=isg H1;refine rg [] [] [.cells false ((n+1)*20) (vecC ePat (l++[(gx t i).mat]))] (fun h=>h 0=zae t/\h 1=.int .i64 k_/\h 5=.arr 0 20 0 (n+1) (n+1) ((n+1)*20)/\h 6=.int .i64 i) (f3 hh (zag g2) ((show vecC ePat [(gx t i).mat]=((((gx t i).mat).mask).l.map (fi .i64)++((((gx t i).mat).bits).l.map (fi .i64))) from zdu.trans rfl))) trivial fun h hh=>?_;refine rk [0,1,5,6] [] hh fun h hh=>?_;exact rd m hh ⟨(fj.wrap (i+1)),(l++[(gx t i).mat]),(n+1),H1,kq hh,rfl⟩
 clear hh h;rintro h bs ⟨hh,rfl⟩;apply fh;refine rk [4] [] hh fun h hh=>?_;obtain ⟨g4,H⟩:=isg H;refine pk 4 (b:=0) (e:=20) (off:=0) (len:=s_.2) (cap:=s_.2) (M:=(s_.2*20)) (s_.1.map ePat) (kq hh) (by rfl) (by omega) (by omega) (by rw [gu];exact zde (fun x=>za3 x) g4) (fun t ht=>by obtain ⟨x,_,rfl⟩:=jt.1 ht;first|rfl|exact zgi _|exact za3 _|exact zd9 _|exact zav _ | (rw [ft];rfl)) (by rw [ft]<;>exact g4) (by omega) ?_;rw [zei _ _ _ (by simp only [lzA]<;>omega)];simp only [scA];refine gk [4] hh fun h hh=>?_;cases H;exact rt hh
def zfs (k:Nat) (h_:Ar 10) (i:Int) (b:Int):Option (Ar 10):=(if 0<=i/\0<16 then (if (0:Int)<=(fj.wrap (i / 16))/\(fj.wrap (i / 16))<(10:Int) then ((zdv k h_ i).bind fun aj=>((zjz k i).bind fun aq=>some (h_.set (fj.wrap (i / 16)) (fj.wrap ((gx h_.l (fj.wrap (i / 16)))+(fj.wrap ((fj.wrap (b - aj))*aq))))))) else none) else none)
theorem zfz (ax:Axs) (hx:NoAx ax) (k:Nat) (h_:Ar 10) (i:Int) (b:Int) (v:Ar 10) (H:zfs k h_ i b=some v):Pure Try.prog (EE ax) [] 57 [.agg (h_.l.map (fi .i64)),.int .i64 i,.int .i64 b] (.agg (v.l.map (fi .i64))):=by
 rw [zfs] at H;refine en [.cell 6 43] 24 [0,1,2] (hx.no _ (by decide)) (fn57 ax) ?_;intro h hh;apply fh;refine rk [1,2,3,6] [] hh fun h hh=>?_;obtain ⟨g1,H⟩:=isg H;obtain ⟨g2,H⟩:=isg H;obtain ⟨aj,e3,H⟩:=zab H;obtain ⟨aq,e4,H⟩:=zab H;apply fh;refine dk 13 [3,6] [.int .i64 aj,.int .i64 aq] [] [] (f3 hh (arIx h_ g2) (yqk (k:=.i64) h_ (fj.wrap ((gx h_.l (fj.wrap (i / 16)))+(fj.wrap ((fj.wrap (b - aj))*aq)))) g2)) ?_ trivial ?_
 .exact ⟨(zbm ax hx k h_ i aj e3 ).call _,(zpw ax hx k i aq e4 ).call _,trivial⟩
 clear hh h;intro h hh;apply fh;refine rk [6] [] hh fun h hh=>?_;cases H;exact rtc hh
def zf0 (k:Nat) (q:Pat):Nat->Int->(Ar 10)->(Ar 10)->Option ((Pat×Bool) ⊕ (Ar 10×Ar 10))
 |0,_,_,_=>none
 |m+1,i,x,x2=>(if i<160 then ((zdv k q.mask i).bind fun aj=>(if aj=0 then zf0 k q m (fj.wrap (i+1)) x x2 else ((((zdv k x i).bind fun av=>(if av=1 then ((zdv k x2 i).bind fun bn=>((zdv k q.bits i).bind fun d8=>some (decide (bn≠d8)))) else some false)):Option Bool).bind fun s_2=>(if s_2=true then some (.inl ((⟨zA 10,zA 10⟩:Pat),false)) else ((zfs k x i 1).bind fun ai=>((zdv k q.bits i).bind fun dh=>((zfs k x2 i dh).bind fun ar=>zf0 k q m (fj.wrap (i+1)) ai ar))))))) else some (.inr (x,x2)))
def zod (k:Nat) (p:Pat) (q:Pat):Option (Pat×Bool):=((zf0 k q k 0 p.mask p.bits:Option ((Pat×Bool) ⊕ (Ar 10×Ar 10))).bind fun o=>kx (fun r=>some r) (fun s_=>some ((⟨s_.1,s_.2⟩:Pat),true)) o)
theorem zt1 (ax:Axs) (hx:NoAx ax) (k:Nat) (p:Pat) (q:Pat) (v:Pat×Bool) (H:zod k p q=some v):Pure Try.prog (EE ax) [] 42 [ePat p,ePat q] (tupT [ePat v.1,.bool v.2]):=by
 rw [zod] at H;refine enN [.cell 4 56,.tmp 5] 48 [0,1] (hx.no _ (by decide)) (fn42 ax) ?_;intro h hh;apply fh;refine rk [2,3,4] [] hh fun h hh=>?_;repeat apply fh
 refine rk [2,3,4,6] [] hh fun h hh=>?_;obtain ⟨o,H1,H⟩:=zab H;refine cu [2,4] 3 (fun h bs=>∃ s_:Ar 10×Ar 10,o=.inr s_/\(h 2=.ptr 0 0 20/\h 4=.ptr 2 0 20)/\bs=[.cells true 20 (s_.1.l.map (fi .i64)++(s_.2.l.map (fi .i64))),.cells true 20 (q.mask.l.map (fi .i64)++(q.bits.l.map (fi .i64))),.cells true 20 ((zA 10).l.map (fi .i64)++((zA 10).l.map (fi .i64)))]) ?_ ?_
 .skip;apply gr;refine jo [2,3,4,6] (fun m h bs=>∃ (i:Int) (x:Ar 10) (x2:Ar 10),zf0 k q m i x x2=some o/\(h 2=.ptr 0 0 20/\h 3=.ptr 1 0 20/\h 4=.ptr 2 0 20/\h 6=.int .i64 i)/\bs=[.cells true 20 (x.l.map (fi .i64)++(x2.l.map (fi .i64))),.cells true 20 (q.mask.l.map (fi .i64)++(q.bits.l.map (fi .i64))),.cells true 20 ((zA 10).l.map (fi .i64)++((zA 10).l.map (fi .i64)))]) ?_ k _ _ ?_;rotate_left
  .exact ⟨0,p.mask,p.bits,H1,kq hh,rfl⟩
  clear hh h H1;rintro m h bs ⟨i,x,x2,H1,hh,rfl⟩;rcases m with _|m
  .rw [zf0] at H1;cases H1
  rw [zf0] at H1;repeat apply fh
  refine rk [2,3,4,6,8] [] hh fun h hh=>?_;rcases isp H1 with ⟨c1,H1⟩|⟨c1,H1⟩;rotate_left
  .skip;refine cf (f2 hh (zAb c1)) ?_;refine xk ?_;cases H1;exact ce hh ⟨_,rfl,kq hh,rfl⟩
  refine ct (f2 hh (zAa c1)) ?_;refine sk ?_;apply fh;apply gr;obtain ⟨aj,e2,H1⟩:=zab H1;repeat apply fh
  refine rkp [2,3,4,6,15] [] [.int .i64 aj] hh ?_ ?_
  .exact ⟨ge ((zbm ax hx k q.mask i aj e2 ).call _),trivial⟩
  clear hh h;intro h hh;rcases isp H1 with ⟨c3,H1⟩|⟨c3,H1⟩;rotate_left
  .skip;refine cf (f2 hh (zAb c3)) ?_;refine sk ?_;obtain ⟨s_2,H2,H1⟩:=zab H1;repeat apply fh
   refine cu [2,3,4,6,31] 3 (fun h bs=>(h 2=.ptr 0 0 20/\h 3=.ptr 1 0 20/\h 4=.ptr 2 0 20/\h 6=.int .i64 i/\h 31=.bool s_2)/\bs=[.cells true 20 (x.l.map (fi .i64)++(x2.l.map (fi .i64))),.cells true 20 (q.mask.l.map (fi .i64)++(q.bits.l.map (fi .i64))),.cells true 20 ((zA 10).l.map (fi .i64)++((zA 10).l.map (fi .i64)))]) ?_ ?_
   .skip;obtain ⟨av,e4,H2⟩:=zab H2;rcases isp H2 with ⟨c5,H2⟩|⟨c5,H2⟩;rotate_left
    .skip;refine dk 12 [2,3,4,6,31] [.int .i64 av] [] [] (f2 hh (zAb c5)) ?_ trivial ?_
     .exact ⟨(zbm ax hx k x i av e4 ).call _,trivial⟩
     clear hh h;intro h hh;cases H2;exact ce hh ⟨kq hh,rfl⟩
    obtain ⟨bn,e6,H2⟩:=zab H2;obtain ⟨d8,e7,H2⟩:=zab H2;refine dk 12 [2,3,4,6,31] [.int .i64 av,.int .i64 bn] [] [(.int .i64 d8,stL [.cells true 20 (x.l.map (fi .i64)++(x2.l.map (fi .i64))),.cells true 20 (q.mask.l.map (fi .i64)++(q.bits.l.map (fi .i64))),.cells true 20 ((zA 10).l.map (fi .i64)++((zA 10).l.map (fi .i64)))])] (f2 hh (zAa c5)) ?_ ?_ ?_
    .exact ⟨(zbm ax hx k x i av e4 ).call _,(zbm ax hx k x2 i bn e6 ).call _,trivial⟩
    .exact ⟨ge ((zbm ax hx k q.bits i d8 e7 ).call _),trivial⟩
    clear hh h;intro h hh;cases H2;exact ce hh ⟨kq hh,rfl⟩
   clear hh h;rintro h bs ⟨hh,rfl⟩;rcases isb H1 with ⟨c8,H1⟩|⟨c8,H1⟩;rotate_left
   .skip;refine cf (f2 hh c8) ?_;refine sk ?_;obtain ⟨ai,e9,H1⟩:=zab H1;apply fh;refine rkc [2,3,4,6] [] [(.agg (ai.l.map (fi .i64)),stL [.cells true 20 (x.l.map (fi .i64)++(x2.l.map (fi .i64))),.cells true 20 (q.mask.l.map (fi .i64)++(q.bits.l.map (fi .i64))),.cells true 20 ((zA 10).l.map (fi .i64)++((zA 10).l.map (fi .i64)))])] (f2 hh c8) ?_ ?_
    .exact ⟨ge (ja (zfz ax hx k x i 1 ai e9 ) (by first|rfl|simp only [c8])),trivial⟩
    clear hh h;intro h hh;obtain ⟨dh,e10,H1⟩:=zab H1;obtain ⟨ar,e11,H1⟩:=zab H1;refine dk 7 [2,3,4,6] [.int .i64 dh] [] [(.agg (ar.l.map (fi .i64)),stL [.cells true 20 (ai.l.map (fi .i64)++(x2.l.map (fi .i64))),.cells true 20 (q.mask.l.map (fi .i64)++(q.bits.l.map (fi .i64))),.cells true 20 ((zA 10).l.map (fi .i64)++((zA 10).l.map (fi .i64)))])] (f2 hh c8) ?_ ?_ ?_
    .exact ⟨ja (zbm ax hx k q.bits i dh e10 ) (by first|rfl|simp only [c8]),trivial⟩
    .exact ⟨ge (ja (zfz ax hx k x2 i dh ar e11 ) (by first|rfl|simp only [c8])),trivial⟩
    clear hh h;intro h hh;refine rk [2,3,4,6] [] (f2 hh c8) fun h hh=>?_;exact rd m hh ⟨(fj.wrap (i+1)),ai,ar,H1,kq hh,rfl⟩
   refine ct (f2 hh c8) ?_;apply fh;refine rk [4,5] [] (f2 hh c8) fun h hh=>?_;cases H1;obtain rfl:=sinl H;exact rtc hh
  refine ct (f2 hh (zAa c3)) ?_;refine xk ?_;refine rk [2,3,4,6] [] hh fun h hh=>?_;exact rd m hh ⟨(fj.wrap (i+1)),x,x2,H1,kq hh,rfl⟩
 clear hh h;rintro h bs ⟨s_,rfl,hh,rfl⟩;replace H:=sinr H;apply fh;refine rk [4,5] [] hh fun h hh=>?_;cases H;exact rtc hh
def ziv (k:Nat) (p:Pat) (q:Pat):Option Bool:=((zod k p q).bind fun af=>some af.2)
theorem zt0 (ax:Axs) (hx:NoAx ax) (k:Nat) (p:Pat) (q:Pat) (v:Bool) (H:ziv k p q=some v):Pure Try.prog (EE ax) [] 91 [ePat p,ePat q] (.bool v):=by
 rw [ziv] at H;refine en [.tmp 4] 14 [0,1] (hx.no _ (by decide)) (fn91 ax) ?_;intro h hh;apply fh;refine rk [2,3] [] hh fun h hh=>?_;obtain ⟨af,e1,H⟩:=zab H;apply fh;refine rkc [6] [] [(.tup [ePat af.1,.bool af.2],stL [.cells true 20 (p.mask.l.map (fi .i64)++(p.bits.l.map (fi .i64))),.cells true 20 (q.mask.l.map (fi .i64)++(q.bits.l.map (fi .i64)))])] hh ?_ ?_
 .exact ⟨ge ((zt1 ax hx k p q af e1 ).call _),trivial⟩
 clear hh h;intro h hh;apply fh;refine rk [4] [] hh fun h hh=>?_;cases H;exact rt hh
def zd4 (k:Nat) (q:Pat):Nat->Int->(Ar 10)->(Ar 10)->(List Pat)->Nat->Option (Ar 10×Ar 10×List Pat×Nat)
 |0,_,_,_,_,_=>none
 |m+1,i,x,x2,l,n=>(if i<160 then ((((zdv k q.mask i).bind fun aj=>(if aj=0 then some true else ((zdv k x i).bind fun av=>some (decide (av=1))))):Option Bool).bind fun s_2=>(if s_2=true then zd4 k q m (fj.wrap (i+1)) x x2 l n else ((zdv k q.bits i).bind fun bn=>((zfs k x i 1).bind fun ai=>((zfs k x2 i (fj.wrap (1 - bn))).bind fun ar=>(if (n+1)*161<=1000000000 then ((zfs k ar i bn).bind fun di=>zd4 k q m (fj.wrap (i+1)) ai di (l++[(⟨ai,ar⟩:Pat)]) (n+1)) else none)))))) else some (x,x2,l,n))
def zll (k:Nat) (p:Pat) (q:Pat):Option (List Pat):=((ziv k p q).bind fun bh=>(if bh=true then ((zd4 k q k 0 p.mask p.bits [] 0:Option (Ar 10×Ar 10×List Pat×Nat)).bind fun s_=>(if s_.2.2.1.length=s_.2.2.2 then some s_.2.2.1 else none)) else some [p]))
theorem zpx (ax:Axs) (hx:NoAx ax) (k:Nat) (p:Pat) (q:Pat) (v:List Pat) (H:zll k p q=some v):Pure Try.prog (EE ax) [] 80 [ePat p,ePat q] (lPat v):=by
 rw [zll] at H;refine en [.tmp 4] 59 [0,1] (hx.no _ (by decide)) (fn80 ax) ?_;intro h hh;apply fh;refine rk [2,3] [] hh fun h hh=>?_;obtain ⟨bh,e1,H⟩:=zab H;apply fh;refine rkp [2,3,5] [] [.bool bh] hh ?_ ?_
 .exact ⟨ge ((zt0 ax hx k p q bh e1 ).call _),trivial⟩
 clear hh h;intro h hh;repeat apply fh
 refine rk [2,3,13] [] hh fun h hh=>?_;rcases isb H with ⟨c2,H⟩|⟨c2,H⟩;rotate_left
 .skip;refine ct (f2 hh c2) ?_;apply fh;refine rk [4] [] (f2 hh c2) fun h hh=>?_;cases H;exact rt hh
 refine cf (f2 hh c2) ?_;refine sk ?_;apply fh;refine rk [2,3,6] [] (f2 hh c2) fun h hh=>?_;refine vk 6 20 [2,3,6] hh fun h hh=>?_;repeat apply fh
 refine rk [2,3,6,7] [] (f2 hh c2) fun h hh=>?_;obtain ⟨s_,H1,H⟩:=zab H;refine cu [6] 3 (fun h bs=>(h 6=.arr 2 20 0 s_.2.2.2 s_.2.2.2 (s_.2.2.2*20))/\bs=[.cells true 20 (s_.1.l.map (fi .i64)++(s_.2.1.l.map (fi .i64))),.cells true 20 (q.mask.l.map (fi .i64)++(q.bits.l.map (fi .i64))),.cells false (s_.2.2.2*20) (vecC ePat s_.2.2.1)]) ?_ ?_
 .skip;apply gr;refine jo [2,3,6,7] (fun m h bs=>∃ (i:Int) (x:Ar 10) (x2:Ar 10) (l:List Pat) (n:Nat),zd4 k q m i x x2 l n=some s_/\(h 2=.ptr 0 0 20/\h 3=.ptr 1 0 20/\h 6=.arr 2 20 0 n n (n*20)/\h 7=.int .i64 i)/\bs=[.cells true 20 (x.l.map (fi .i64)++(x2.l.map (fi .i64))),.cells true 20 (q.mask.l.map (fi .i64)++(q.bits.l.map (fi .i64))),.cells false (n*20) (vecC ePat l)]) ?_ k _ _ ?_;rotate_left
  .exact ⟨0,p.mask,p.bits,[],0,H1,kq hh,rfl⟩
  clear hh h H1;rintro m h bs ⟨i,x,x2,l,n,H1,hh,rfl⟩;rcases m with _|m
  .rw [zd4] at H1;cases H1
  rw [zd4] at H1;repeat apply fh
  refine rk [2,3,6,7,17] [] (f2 hh c2) fun h hh=>?_;rcases isp H1 with ⟨c3,H1⟩|⟨c3,H1⟩;rotate_left
  .skip;refine cf (f2 hh (zAb c3)) ?_;refine xk ?_;cases H1;exact ce hh ⟨kq hh,rfl⟩
  refine ct (f2 hh (zAa c3)) ?_;refine sk ?_;apply fh;apply gr;obtain ⟨s_2,H2,H1⟩:=zab H1;repeat apply fh
  refine cu [2,3,6,7,31] 3 (fun h bs=>(h 2=.ptr 0 0 20/\h 3=.ptr 1 0 20/\h 6=.arr 2 20 0 n n (n*20)/\h 7=.int .i64 i/\h 31=.bool s_2)/\bs=[.cells true 20 (x.l.map (fi .i64)++(x2.l.map (fi .i64))),.cells true 20 (q.mask.l.map (fi .i64)++(q.bits.l.map (fi .i64))),.cells false (n*20) (vecC ePat l)]) ?_ ?_
  .skip;obtain ⟨aj,e4,H2⟩:=zab H2;rcases isp H2 with ⟨c5,H2⟩|⟨c5,H2⟩;rotate_left
   .skip;obtain ⟨av,e6,H2⟩:=zab H2;refine rkp [2,3,6,7,31] [] [.int .i64 aj,.int .i64 av] (f3 hh (zAb c5) c2) ?_ ?_
    .exact ⟨ge (ja (zbm ax hx k q.mask i aj e4 ) (by first|rfl|simp only [c2])),ge (ja (zbm ax hx k x i av e6 ) (by first|rfl|simp only [c2])),trivial⟩
    clear hh h;intro h hh;cases H2;exact ce hh ⟨kq hh,rfl⟩
   refine rkp [2,3,6,7,31] [] [.int .i64 aj] (f3 hh (zAa c5) c2) ?_ ?_
   .exact ⟨ge (ja (zbm ax hx k q.mask i aj e4 ) (by first|rfl|simp only [c2])),trivial⟩
   clear hh h;intro h hh;cases H2;exact ce hh ⟨kq hh,rfl⟩
  clear hh h;rintro h bs ⟨hh,rfl⟩;rcases isb H1 with ⟨c7,H1⟩|⟨c7,H1⟩;rotate_left
  .skip;refine cf (f2 hh c7) ?_;refine sk ?_;obtain ⟨bn,e8,H1⟩:=zab H1;apply fh;refine rkp [2,3,6,7,8] [] [.int .i64 bn] (f3 hh c2 c7) ?_ ?_
   .exact ⟨ge (ja (zbm ax hx k q.bits i bn e8 ) (by first|rfl|simp only [c2,c7])),trivial⟩
   clear hh h;intro h hh;obtain ⟨ai,e9,H1⟩:=zab H1;apply fh;refine rkc [2,3,6,7,8] [] [(.agg (ai.l.map (fi .i64)),stL [.cells true 20 (x.l.map (fi .i64)++(x2.l.map (fi .i64))),.cells true 20 (q.mask.l.map (fi .i64)++(q.bits.l.map (fi .i64))),.cells false (n*20) (vecC ePat l)])] (f3 hh c2 c7) ?_ ?_
   .exact ⟨ge (ja (zfz ax hx k x i 1 ai e9 ) (by first|rfl|simp only [c2,c7])),trivial⟩
   clear hh h;intro h hh;obtain ⟨ar,e10,H1⟩:=zab H1;apply fh;refine rkc [2,3,6,7,8] [] [(.agg (ar.l.map (fi .i64)),stL [.cells true 20 (ai.l.map (fi .i64)++(x2.l.map (fi .i64))),.cells true 20 (q.mask.l.map (fi .i64)++(q.bits.l.map (fi .i64))),.cells false (n*20) (vecC ePat l)])] (f3 hh c2 c7) ?_ ?_
   .exact ⟨ge (ja (zfz ax hx k x2 i (fj.wrap (1 - bn)) ar e10 ) (by first|rfl|simp only [c2,c7])),trivial⟩
   clear hh h;intro h hh;obtain ⟨g11,H1⟩:=isg H1;apply fh;refine rg [] [] [.cells true 20 (ai.l.map (fi .i64)++(ar.l.map (fi .i64))),.cells true 20 (q.mask.l.map (fi .i64)++(q.bits.l.map (fi .i64))),.cells false ((n+1)*20) (vecC ePat (l++[(⟨ai,ar⟩:Pat)]))] (fun h=>h 2=.ptr 0 0 20/\h 3=.ptr 1 0 20/\h 6=.arr 2 20 0 (n+1) (n+1) ((n+1)*20)/\h 7=.int .i64 i/\h 8=.int .i64 bn) (f3 hh c2 (f2 c7 ((show vecC ePat [(⟨ai,ar⟩:Pat)]=(((⟨ai,ar⟩:Pat).mask).l.map (fi .i64)++(((⟨ai,ar⟩:Pat).bits).l.map (fi .i64))) from zdu.trans rfl)))) trivial fun h hh=>?_;obtain ⟨di,e12,H1⟩:=zab H1;refine rkc [2,3,6,7] [] [(.agg (di.l.map (fi .i64)),stL [.cells true 20 (ai.l.map (fi .i64)++(ar.l.map (fi .i64))),.cells true 20 (q.mask.l.map (fi .i64)++(q.bits.l.map (fi .i64))),.cells false ((n+1)*20) (vecC ePat (l++[(⟨ai,ar⟩:Pat)]))])] (f3 hh c2 c7) ?_ ?_
   .exact ⟨ge (ja (zfz ax hx k ar i bn di e12 ) (by first|rfl|simp only [c2,c7])),trivial⟩
   clear hh h;intro h hh;refine rk [2,3,6,7] [] (f3 hh c2 c7) fun h hh=>?_;exact rd m hh ⟨(fj.wrap (i+1)),ai,di,(l++[(⟨ai,ar⟩:Pat)]),(n+1),H1,kq hh,rfl⟩
  refine ct (f2 hh c7) ?_;refine xk ?_;refine rk [2,3,6,7] [] (f3 hh c2 c7) fun h hh=>?_;exact rd m hh ⟨(fj.wrap (i+1)),x,x2,l,n,H1,kq hh,rfl⟩
 clear hh h;rintro h bs ⟨hh,rfl⟩;apply fh;refine rk [4] [] (f2 hh c2) fun h hh=>?_;obtain ⟨g13,H⟩:=isg H;refine pk 4 (b:=2) (e:=20) (off:=0) (len:=s_.2.2.2) (cap:=s_.2.2.2) (M:=(s_.2.2.2*20)) (s_.2.2.1.map ePat) (kq hh) (by rfl) (by omega) (by omega) (by rw [gu];exact zde (fun x=>za3 x) g13) (fun t ht=>by obtain ⟨x,_,rfl⟩:=jt.1 ht;first|rfl|exact zgi _|exact za3 _|exact zd9 _|exact zav _ | (rw [ft];rfl)) (by rw [ft]<;>exact g13) (by omega) ?_;rw [zei _ _ _ (by simp only [lzA]<;>omega)];simp only [scA];refine gk [4] hh fun h hh=>?_;cases H;exact rt hh
def zb4 (k:Nat) (l:List Pat) (q:Pat):Nat->Int->(List Pat)->Nat->Option (List Pat×Nat)
 |0,_,_,_=>none
 |m+1,i,l2,n=>(if i<(l.length:Int) then (if 0<=i/\i<(l.length:Int) then ((zll k (gx l i) q).bind fun aw=>(if (n+aw.length)*161<=1000000000 then (if aw.length=0 then zb4 k l q m (fj.wrap (i+1)) l2 n else zb4 k l q m (fj.wrap (i+1)) (l2++aw) (n+aw.length)) else none)) else none) else some (l2,n))
def zg3 (k:Nat) (l:List Pat) (q:Pat):Option (List Pat):=((zb4 k l q k 0 [] 0:Option (List Pat×Nat)).bind fun s_=>(if s_.1.length=s_.2 then some s_.1 else none))
theorem zq9 (ax:Axs) (hx:NoAx ax) (k:Nat) (l:List Pat) (q:Pat) (v:List Pat) (H:zg3 k l q=some v):Pure Try.prog (EE ax) [] 65 [lPat l,ePat q] (lPat v):=by
 rw [zg3] at H;refine en [.tmp 4] 22 [0,1] (hx.no _ (by decide)) (fn65 ax) ?_;intro h hh;apply fh;refine rk [0,3] [] hh fun h hh=>?_;apply fh;refine rk [0,3,5] [] hh fun h hh=>?_;refine vk 5 20 [0,3,5] hh fun h hh=>?_;repeat apply fh
 refine rk [0,3,5,6] [] hh fun h hh=>?_;obtain ⟨s_,H1,H⟩:=zab H;refine cu [5] 2 (fun h bs=>(h 5=.arr 1 20 0 s_.2 s_.2 (s_.2*20))/\bs=[.cells true 20 (q.mask.l.map (fi .i64)++(q.bits.l.map (fi .i64))),.cells false (s_.2*20) (vecC ePat s_.1)]) ?_ ?_
 .skip;apply gr;refine jo [0,3,5,6] (fun m h bs=>∃ (i:Int) (l2:List Pat) (n:Nat),zb4 k l q m i l2 n=some s_/\(h 0=lPat l/\h 3=.ptr 0 0 20/\h 5=.arr 1 20 0 n n (n*20)/\h 6=.int .i64 i)/\bs=[.cells true 20 (q.mask.l.map (fi .i64)++(q.bits.l.map (fi .i64))),.cells false (n*20) (vecC ePat l2)]) ?_ k _ _ ?_;rotate_left
  .exact ⟨0,[],0,H1,kq hh,rfl⟩
  clear hh h H1;rintro m h bs ⟨i,l2,n,H1,hh,rfl⟩;rcases m with _|m
  .rw [zb4] at H1;cases H1
  rw [zb4] at H1;repeat apply fh
  refine rk [0,3,5,6,10] [] hh fun h hh=>?_;rcases isp H1 with ⟨c1,H1⟩|⟨c1,H1⟩;rotate_left
  .skip;refine cf (f2 hh (zAb c1)) ?_;refine xk ?_;cases H1;exact ce hh ⟨kq hh,rfl⟩
  refine ct (f2 hh (zAa c1)) ?_;refine sk ?_;apply fh;apply gr;obtain ⟨g2,H1⟩:=isg H1;obtain ⟨aw,e3,H1⟩:=zab H1;obtain ⟨g4,H1⟩:=isg H1;rcases isp H1 with ⟨c5,H1⟩|⟨c5,H1⟩;rotate_left
  .skip;refine dg 6 [] [] [(lPat aw,stL [.cells true 20 (q.mask.l.map (fi .i64)++(q.bits.l.map (fi .i64))),.cells false (n*20) (vecC ePat l2)])] [.cells true 20 (q.mask.l.map (fi .i64)++(q.bits.l.map (fi .i64))),.cells false ((n+aw.length)*20) (vecC ePat (l2++aw))] (fun h=>h 0=lPat l/\h 3=.ptr 0 0 20/\h 5=.arr 1 20 0 (n+aw.length) (n+aw.length) ((n+aw.length)*20)/\h 6=.int .i64 i) (f3 hh (zag g2) (f3 (zgv ePat aw) (zby (f:=ePat) (e:=20) (fun x=>za3 x) aw) (ze2 (f:=ePat) (fun x=>zoh x) aw))) trivial ?_ ?_
   .exact ⟨ge ((zpx ax hx k (gx l i) q aw e3 ).call _),trivial⟩
   clear hh h;intro h hh;refine rk [0,3,5,6] [] hh fun h hh=>?_;exact rd m hh ⟨(fj.wrap (i+1)),(l2++aw),(n+aw.length),H1,kq hh,rfl⟩
  refine dg 6 [] [] [(lPat aw,stL [.cells true 20 (q.mask.l.map (fi .i64)++(q.bits.l.map (fi .i64))),.cells false (n*20) (vecC ePat l2)])] [.cells true 20 (q.mask.l.map (fi .i64)++(q.bits.l.map (fi .i64))),.cells false (n*20) (vecC ePat l2)] (fun h=>h 0=lPat l/\h 3=.ptr 0 0 20/\h 5=.arr 1 20 0 n n (n*20)/\h 6=.int .i64 i) (f3 hh c5 (f3 (zag g2) (zgv ePat aw) (f2 (zby (f:=ePat) (e:=20) (fun x=>za3 x) aw) (ze2 (f:=ePat) (fun x=>zoh x) aw)))) trivial ?_ ?_
  .exact ⟨ge ((zpx ax hx k (gx l i) q aw e3 ).call _),trivial⟩
  clear hh h;intro h hh;refine rk [0,3,5,6] [] (f2 hh c5) fun h hh=>?_;exact rd m hh ⟨(fj.wrap (i+1)),l2,n,H1,kq hh,rfl⟩
 clear hh h;rintro h bs ⟨hh,rfl⟩;apply fh;refine rk [4] [] hh fun h hh=>?_;obtain ⟨g6,H⟩:=isg H;refine pk 4 (b:=1) (e:=20) (off:=0) (len:=s_.2) (cap:=s_.2) (M:=(s_.2*20)) (s_.1.map ePat) (kq hh) (by rfl) (by omega) (by omega) (by rw [gu];exact zde (fun x=>za3 x) g6) (fun t ht=>by obtain ⟨x,_,rfl⟩:=jt.1 ht;first|rfl|exact zgi _|exact za3 _|exact zd9 _|exact zav _ | (rw [ft];rfl)) (by rw [ft]<;>exact g6) (by omega) ?_;rw [zei _ _ _ (by simp only [lzA]<;>omega)];simp only [scA];refine gk [4] hh fun h hh=>?_;cases H;exact rt hh
def zbl (k:Nat) (a:Ar 10) (b:Ar 10):Nat->Int->Option (Int ⊕ Unit)
 |0,_=>none
 |m+1,i=>(if i<10 then (if 0<=i/\i<(10:Int) then (if (gx a.l i)<(gx b.l i) then some (.inl (-1)) else (if (gx b.l i)<(gx a.l i) then some (.inl 1) else zbl k a b m (fj.wrap (i+1)))) else none) else some (.inr ()))
def zdn (k:Nat) (a:Ar 10) (b:Ar 10):Option Int:=((zbl k a b k 0:Option (Int ⊕ Unit)).bind fun o=>kx (fun r=>some r) (fun s_=>some 0) o)
theorem zjk (ax:Axs) (hx:NoAx ax) (k:Nat) (a:Ar 10) (b:Ar 10) (v:Int) (H:zdn k a b=some v):Pure Try.prog (EE ax) [] 45 [.agg (a.l.map (fi .i64)),.agg (b.l.map (fi .i64))] (.int .i64 v):=by
 rw [zdn] at H;refine en [.tmp 4] 24 [0,1] (hx.no _ (by decide)) (fn45 ax) ?_;intro h hh;apply fh;refine rk [2,3] [] hh fun h hh=>?_;repeat apply fh
 refine rk [2,3,5] [] hh fun h hh=>?_;obtain ⟨o,H1,H⟩:=zab H;refine cu [] 2 (fun h bs=>∃ s_:Unit,o=.inr s_/\(True)/\bs=[.cells true 10 (a.l.map (fi .i64)),.cells true 10 (b.l.map (fi .i64))]) ?_ ?_
 .skip;apply gr;refine jo [2,3,5] (fun m h bs=>∃ (i:Int),zbl k a b m i=some o/\(h 2=.ptr 0 0 10/\h 3=.ptr 1 0 10/\h 5=.int .i64 i)/\bs=[.cells true 10 (a.l.map (fi .i64)),.cells true 10 (b.l.map (fi .i64))]) ?_ k _ _ ?_;rotate_left
  .exact ⟨0,H1,kq hh,rfl⟩
  clear hh h H1;rintro m h bs ⟨i,H1,hh,rfl⟩;rcases m with _|m
  .rw [zbl] at H1;cases H1
  rw [zbl] at H1;repeat apply fh
  refine rk [2,3,5,7] [] hh fun h hh=>?_;rcases isp H1 with ⟨c1,H1⟩|⟨c1,H1⟩;rotate_left
  .skip;refine cf (f2 hh (zAb c1)) ?_;refine xk ?_;cases H1;exact ce hh ⟨_,rfl,kq hh,rfl⟩
  refine ct (f2 hh (zAa c1)) ?_;refine sk ?_;apply fh;apply gr;obtain ⟨g2,H1⟩:=isg H1;repeat apply fh
  refine dk 6 [2,3,5,16] [] [] [] (f3 hh (arIx a g2) (arIx b g2)) trivial trivial fun h hh=>?_;rcases isp H1 with ⟨c3,H1⟩|⟨c3,H1⟩;rotate_left
  .skip;refine cf (f2 hh (zAb c3)) ?_;refine sk ?_;apply fh;refine dk 6 [2,3,5,23] [] [] [] (f3 hh (arIx a g2) (arIx b g2)) trivial trivial fun h hh=>?_;rcases isp H1 with ⟨c4,H1⟩|⟨c4,H1⟩;rotate_left
   .skip;refine cf (f2 hh (zAb c4)) ?_;refine sk ?_;refine rk [2,3,5] [] hh fun h hh=>?_;exact rd m hh ⟨(fj.wrap (i+1)),H1,kq hh,rfl⟩
   refine ct (f2 hh (zAa c4)) ?_;apply fh;refine rk [4] [] hh fun h hh=>?_;cases H1;obtain rfl:=sinl H;exact rt hh
  refine ct (f2 hh (zAa c3)) ?_;apply fh;refine rk [4] [] hh fun h hh=>?_;cases H1;obtain rfl:=sinl H;exact rt hh
 clear hh h;rintro h bs ⟨s_,rfl,hh,rfl⟩;replace H:=sinr H;apply fh;refine rk [4] [] hh fun h hh=>?_;cases H;exact rt hh
def zc9 (k:Nat) (l:List Pat):Nat->(List Pat)->Int->Option (List Pat)
 |0,_,_=>none
 |m+1,left,i=>(if i<(l.length:Int) then (if 0<=i/\i<(l.length:Int) then ((zg3 k left (gx l i)).bind fun dj=>zc9 k l m dj (fj.wrap (i+1))) else none) else some left)
def zcf (k:Nat) (s_:List Pat):Nat->Int->(Ar 10)->Option (Ar 10)
 |0,_,_=>none
 |m+1,i2,x=>(if i2<(s_.length:Int) then (if 0<=i2/\i2<(s_.length:Int) then ((zdn k ((gx s_ i2).bits) x).bind fun bj=>(if bj<0 then zcf k s_ m (fj.wrap (i2+1)) ((gx s_ i2).bits) else zcf k s_ m (fj.wrap (i2+1)) x)) else none) else some x)
def zew (k:Nat) (p:Pat) (l:List Pat):Option (Ar 10×Bool):=((zc9 k l k [p] 0:Option (List Pat)).bind fun s_=>(if (s_.length:Int)=0 then some ((zA 10),false) else (if (0:Int)<=0/\0<(s_.length:Int) then ((zcf k s_ k 1 ((gx s_ 0).bits):Option (Ar 10)).bind fun s_2=>some (s_2,true)) else none)))
theorem zna (ax:Axs) (hx:NoAx ax) (k:Nat) (p:Pat) (l:List Pat) (v:Ar 10×Bool) (H:zew k p l=some v):Pure Try.prog (EE ax) [] 43 [ePat p,lPat l] (tupT [.agg (v.1.l.map (fi .i64)),.bool v.2]):=by
 rw [zew] at H;refine enN [.cell 4 43,.tmp 5] 52 [0,1] (hx.no _ (by decide)) (fn43 ax) ?_;intro h hh;apply fh;refine rk [1,2,4] [] hh fun h hh=>?_;apply fh;refine rk [1,4,6] [] hh fun h hh=>?_;repeat apply fh
 refine rk [1,4,6,7] [] hh fun h hh=>?_;obtain ⟨s_,H1,H⟩:=zab H;refine cu [4,6] 2 (fun h bs=>(h 4=.ptr 1 0 10/\h 6=lPat s_)/\bs=[.cells true 20 (p.mask.l.map (fi .i64)++(p.bits.l.map (fi .i64))),.cells true 10 ((zA 10).l.map (fi .i64))]) ?_ ?_
 .skip;apply gr;refine jo [1,4,6,7] (fun m h bs=>∃ (left:List Pat) (i:Int),zc9 k l m left i=some s_/\(h 1=lPat l/\h 4=.ptr 1 0 10/\h 6=lPat left/\h 7=.int .i64 i)/\bs=[.cells true 20 (p.mask.l.map (fi .i64)++(p.bits.l.map (fi .i64))),.cells true 10 ((zA 10).l.map (fi .i64))]) ?_ k _ _ ?_;rotate_left
  .exact ⟨[p],0,H1,kq hh,rfl⟩
  clear hh h H1;rintro m h bs ⟨left,i,H1,hh,rfl⟩;rcases m with _|m
  .rw [zc9] at H1;cases H1
  rw [zc9] at H1;repeat apply fh
  refine rk [1,4,6,7,15] [] hh fun h hh=>?_;rcases isp H1 with ⟨c1,H1⟩|⟨c1,H1⟩;rotate_left
  .skip;refine cf (f2 hh (zAb c1)) ?_;refine xk ?_;cases H1;exact ce hh ⟨kq hh,rfl⟩
  refine ct (f2 hh (zAa c1)) ?_;refine sk ?_;apply fh;apply gr;obtain ⟨g2,H1⟩:=isg H1;obtain ⟨dj,e3,H1⟩:=zab H1;refine rkp [1,4,6,7] [] [lPat dj] (f2 hh (zag g2)) ?_ ?_
  .exact ⟨ge ((zq9 ax hx k left (gx l i) dj e3 ).call _),trivial⟩
  clear hh h;intro h hh;refine rk [1,4,6,7] [] hh fun h hh=>?_;exact rd m hh ⟨dj,(fj.wrap (i+1)),H1,kq hh,rfl⟩
 clear hh h;rintro h bs ⟨hh,rfl⟩;repeat apply fh
 refine rk [4,6,26] [] hh fun h hh=>?_;rcases isp H with ⟨c4,H⟩|⟨c4,H⟩;rotate_left
 .skip;refine cf (f2 hh (zAb c4)) ?_;refine sk ?_;obtain ⟨g5,H⟩:=isg H;apply fh;refine rk [4,6,8] [] (f2 hh (zag g5)) fun h hh=>?_;repeat apply fh
  refine rk [4,6,8,9] [] hh fun h hh=>?_;obtain ⟨s_2,H1,H⟩:=zab H;refine cu [4,8] 3 (fun h bs=>(h 4=.ptr 1 0 10/\h 8=.ptr 2 0 10)/\bs=[.cells true 20 (p.mask.l.map (fi .i64)++(p.bits.l.map (fi .i64))),.cells true 10 ((zA 10).l.map (fi .i64)),.cells true 10 (s_2.l.map (fi .i64))]) ?_ ?_
  .skip;apply gr;refine jo [4,6,8,9] (fun m h bs=>∃ (i2:Int) (x:Ar 10),zcf k s_ m i2 x=some s_2/\(h 4=.ptr 1 0 10/\h 6=lPat s_/\h 8=.ptr 2 0 10/\h 9=.int .i64 i2)/\bs=[.cells true 20 (p.mask.l.map (fi .i64)++(p.bits.l.map (fi .i64))),.cells true 10 ((zA 10).l.map (fi .i64)),.cells true 10 (x.l.map (fi .i64))]) ?_ k _ _ ?_;rotate_left
   .exact ⟨1,((gx s_ 0).bits),H1,kq hh,rfl⟩
   clear hh h H1;rintro m h bs ⟨i2,x,H1,hh,rfl⟩;rcases m with _|m
   .rw [zcf] at H1;cases H1
   rw [zcf] at H1;repeat apply fh
   refine rk [4,6,8,9,35] [] hh fun h hh=>?_;rcases isp H1 with ⟨c6,H1⟩|⟨c6,H1⟩;rotate_left
   .skip;refine cf (f2 hh (zAb c6)) ?_;refine xk ?_;cases H1;exact ce hh ⟨kq hh,rfl⟩
   refine ct (f2 hh (zAa c6)) ?_;refine sk ?_;apply fh;apply gr;obtain ⟨g7,H1⟩:=isg H1;obtain ⟨bj,e8,H1⟩:=zab H1;apply fh;refine dk 6 [4,6,8,9,45] [] [] [(.int .i64 bj,stL [.cells true 20 (p.mask.l.map (fi .i64)++(p.bits.l.map (fi .i64))),.cells true 10 ((zA 10).l.map (fi .i64)),.cells true 10 (x.l.map (fi .i64))])] (f2 hh (zag g7)) trivial ?_ ?_
   .exact ⟨ge ((zjk ax hx k ((gx s_ i2).bits) x bj e8 ).call _),trivial⟩
   clear hh h;intro h hh;rcases isp H1 with ⟨c9,H1⟩|⟨c9,H1⟩;rotate_left
   .skip;refine cf (f2 hh (zAb c9)) ?_;refine sk ?_;refine rk [4,6,8,9] [] hh fun h hh=>?_;exact rd m hh ⟨(fj.wrap (i2+1)),x,H1,kq hh,rfl⟩
   refine ct (f2 hh (zAa c9)) ?_;refine rk [4,6,8,9] [] (f2 hh (zag g7)) fun h hh=>?_;refine rk [4,6,8,9] [] hh fun h hh=>?_;exact rd m hh ⟨(fj.wrap (i2+1)),((gx s_ i2).bits),H1,kq hh,rfl⟩
  clear hh h;rintro h bs ⟨hh,rfl⟩;apply fh;refine rk [4,5] [] hh fun h hh=>?_;cases H;exact rtc hh
 refine ct (f2 hh (zAa c4)) ?_;apply fh;refine rk [4,5] [] (f2 hh (bz43 ax)) fun h hh=>?_;cases H;exact rtc hh
def z1x (k:Nat) (t:List Rule) (k_:Int):Option (Ar 10×Bool):=(((if k_<0 then some true else some (decide ((t.length:Int)<=k_))):Option Bool).bind fun s_=>(if s_=true then some ((zA 10),false) else (if 0<=k_/\k_<(t.length:Int) then ((zhb k t k_).bind fun ac=>((zew k ((gx t k_).mat) ac).bind fun az=>some (az.1,az.2))) else none)))
def zbr (k:Nat) (l:List Int) (k_:Int):Nat->Bool->Int->Option Bool
 |0,_,_=>none
 |m+1,gone,i=>(if i<(l.length:Int) then (if gone=true then zbr k l k_ m true (fj.wrap (i+1)) else (if 0<=i/\i<(l.length:Int) then zbr k l k_ m (decide ((gx l i)=k_)) (fj.wrap (i+1)) else none)) else some gone)
def zc8 (k:Nat) (t:List Rule) (l:List Int):Nat->Int->(List Rule)->Nat->Option (List Rule×Nat)
 |0,_,_,_=>none
 |m+1,k_,l2,n=>(if k_<(t.length:Int) then ((((zbr k l k_ k false 0:Option Bool).bind fun s_3=>(if s_3=true then some (l2,n) else (if 0<=k_/\k_<(t.length:Int) then (if (n+1)*201<=1000000000 then some (l2++[gx t k_],n+1) else none) else none))):Option (List Rule×Nat)).bind fun s_2=>zc8 k t l m (fj.wrap (k_+1)) s_2.1 s_2.2) else some (l2,n))
def ziu (k:Nat) (t:List Rule) (l:List Int):Option (List Rule):=((zc8 k t l k 0 [] 0:Option (List Rule×Nat)).bind fun s_=>(if s_.1.length=s_.2 then some s_.1 else none))
theorem ztz (ax:Axs) (hx:NoAx ax) (k:Nat) (t:List Rule) (l:List Int) (v:List Rule) (H:ziu k t l=some v):Pure Try.prog (EE ax) [] 22 [zae t,ints l] (zae v):=by
 rw [ziu] at H;refine en [.tmp 4] 40 [0,1] (hx.no _ (by decide)) (fn22 ax) ?_;intro h hh;apply fh;refine rk [0,1] [] hh fun h hh=>?_;apply fh;refine rk [0,1,5] [] hh fun h hh=>?_;refine vk 5 23 [0,1,5] hh fun h hh=>?_;repeat apply fh
 refine rk [0,1,5,6] [] hh fun h hh=>?_;obtain ⟨s_,H1,H⟩:=zab H;refine cu [5] 1 (fun h bs=>(h 5=.arr 0 23 0 s_.2 s_.2 (s_.2*23))/\bs=[.cells false (s_.2*23) (vecC zaj s_.1)]) ?_ ?_
 .skip;apply gr;refine jo [0,1,5,6] (fun m h bs=>∃ (k_:Int) (l2:List Rule) (n:Nat),zc8 k t l m k_ l2 n=some s_/\(h 0=zae t/\h 1=ints l/\h 5=.arr 0 23 0 n n (n*23)/\h 6=.int .i64 k_)/\bs=[.cells false (n*23) (vecC zaj l2)]) ?_ k _ _ ?_;rotate_left
  .exact ⟨0,[],0,H1,kq hh,rfl⟩
  clear hh h H1;rintro m h bs ⟨k_,l2,n,H1,hh,rfl⟩;rcases m with _|m
  .rw [zc8] at H1;cases H1
  rw [zc8] at H1;repeat apply fh
  refine rk [0,1,5,6,12] [] hh fun h hh=>?_;rcases isp H1 with ⟨c1,H1⟩|⟨c1,H1⟩;rotate_left
  .skip;refine cf (f2 hh (zAb c1)) ?_;refine xk ?_;cases H1;exact ce hh ⟨kq hh,rfl⟩
  refine ct (f2 hh (zAa c1)) ?_;refine sk ?_;obtain ⟨s_2,H2,H1⟩:=zab H1;apply fh;refine cu [0,1,5,6] 1 (fun h bs=>(h 0=zae t/\h 1=ints l/\h 5=.arr 0 23 0 s_2.2 s_2.2 (s_2.2*23)/\h 6=.int .i64 k_)/\bs=[.cells false (s_2.2*23) (vecC zaj s_2.1)]) ?_ ?_
  .skip;apply gr;apply fh;refine rk [0,1,5,6,7] [] hh fun h hh=>?_;repeat apply fh
   refine rk [0,1,5,6,7,8] [] hh fun h hh=>?_;obtain ⟨s_3,H3,H2⟩:=zab H2;refine cu [0,1,5,6,7] 1 (fun h bs=>(h 0=zae t/\h 1=ints l/\h 5=.arr 0 23 0 n n (n*23)/\h 6=.int .i64 k_/\h 7=.bool s_3)/\bs=[.cells false (n*23) (vecC zaj l2)]) ?_ ?_
   .skip;apply gr;refine jo [0,1,5,6,7,8] (fun m h bs=>∃ (gone:Bool) (i:Int),zbr k l k_ m gone i=some s_3/\(h 0=zae t/\h 1=ints l/\h 5=.arr 0 23 0 n n (n*23)/\h 6=.int .i64 k_/\h 7=.bool gone/\h 8=.int .i64 i)/\bs=[.cells false (n*23) (vecC zaj l2)]) ?_ k _ _ ?_;rotate_left
    .exact ⟨false,0,H3,kq hh,rfl⟩
    clear hh h H3;rintro m h bs ⟨gone,i,H3,hh,rfl⟩;rcases m with _|m
    .rw [zbr] at H3;cases H3
    rw [zbr] at H3;repeat apply fh
    refine rk [0,1,5,6,7,8,18] [] hh fun h hh=>?_;rcases isp H3 with ⟨c2,H3⟩|⟨c2,H3⟩;rotate_left
    .skip;refine cf (f2 hh (zAb c2)) ?_;refine xk ?_;cases H3;exact ce hh ⟨kq hh,rfl⟩
    refine ct (f2 hh (zAa c2)) ?_;refine sk ?_;apply fh;apply gr;rcases isb H3 with ⟨c3,H3⟩|⟨c3,H3⟩;rotate_left
    .skip;obtain ⟨g4,H3⟩:=isg H3;refine rk [0,1,5,6,7,8] [] (f3 hh c3 (zag g4)) fun h hh=>?_;refine rk [0,1,5,6,7,8] [] (f2 hh c3) fun h hh=>?_;exact rd m hh ⟨(decide ((gx l i)=k_)),(fj.wrap (i+1)),H3,kq hh,rfl⟩
    refine rk [0,1,5,6,7,8] [] (f2 hh c3) fun h hh=>?_;refine rk [0,1,5,6,7,8] [] (f2 hh c3) fun h hh=>?_;exact rd m hh ⟨true,(fj.wrap (i+1)),H3,kq hh,rfl⟩
   clear hh h;rintro h bs ⟨hh,rfl⟩;apply fh;refine rk [0,1,5,6,31] [] hh fun h hh=>?_;rcases isb H2 with ⟨c5,H2⟩|⟨c5,H2⟩;rotate_left
   .skip;refine ct (f2 hh c5) ?_;obtain ⟨g6,H2⟩:=isg H2;obtain ⟨g7,H2⟩:=isg H2;refine rg [] [] [.cells false ((n+1)*23) (vecC zaj (l2++[gx t k_]))] (fun h=>h 0=zae t/\h 1=ints l/\h 5=.arr 0 23 0 (n+1) (n+1) ((n+1)*23)/\h 6=.int .i64 k_) (f3 hh c5 (f2 (zag g6) ((show vecC zaj [gx t k_]=(fi .i64 ((gx t k_).prio) :: ((((gx t k_).mat).mask).l.map (fi .i64)++((((gx t k_).mat).bits).l.map (fi .i64)++[fi .i64 ((gx t k_).step),za6 ((gx t k_).outs)]))) from zdu.trans rfl)))) trivial fun h hh=>?_;cases H2;exact ce hh ⟨kq hh,rfl⟩
   refine cf (f2 hh c5) ?_;refine sk ?_;cases H2;exact ce hh ⟨kq hh,rfl⟩
  clear hh h;rintro h bs ⟨hh,rfl⟩;refine rk [0,1,5,6] [] hh fun h hh=>?_;exact rd m hh ⟨(fj.wrap (k_+1)),s_2.1,s_2.2,H1,kq hh,rfl⟩
 clear hh h;rintro h bs ⟨hh,rfl⟩;apply fh;refine rk [4] [] hh fun h hh=>?_;obtain ⟨g8,H⟩:=isg H;refine pk 4 (b:=0) (e:=23) (off:=0) (len:=s_.2) (cap:=s_.2) (M:=(s_.2*23)) (s_.1.map zaj) (kq hh) (by rfl) (by omega) (by omega) (by rw [gu];exact zde (fun x=>zav x) g8) (fun t ht=>by obtain ⟨x,_,rfl⟩:=jt.1 ht;first|rfl|exact zgi _|exact za3 _|exact zd9 _|exact zav _ | (rw [ft];rfl)) (by rw [ft]<;>exact g8) (by omega) ?_;rw [zei _ _ _ (by simp only [lzA]<;>omega)];simp only [scA];refine gk [4] hh fun h hh=>?_;cases H;exact rt hh
def zcm (k:Nat) (l:List Pat):Nat->Int->Option (Bool ⊕ Unit)
 |0,_=>none
 |m+1,i=>(if i<(l.length:Int) then (if 0<=i/\i<(l.length:Int) then ((zih k (gx l i)).bind fun bk=>(if bk=true then zcm k l m (fj.wrap (i+1)) else some (.inl false))) else none) else some (.inr ()))
def zhz (k:Nat) (l:List Pat):Option Bool:=((zcm k l k 0:Option (Bool ⊕ Unit)).bind fun o=>kx (fun r=>some r) (fun s_=>some true) o)
theorem zss (ax:Axs) (hx:NoAx ax) (k:Nat) (l:List Pat) (v:Bool) (H:zhz k l=some v):Pure Try.prog (EE ax) [] 68 [lPat l] (.bool v):=by
 rw [zhz] at H;refine en [.tmp 2] 18 [0] (hx.no _ (by decide)) (fn68 ax) ?_;intro h hh;apply fh;refine rk [0] [] hh fun h hh=>?_;repeat apply fh
 refine rk [0,3] [] hh fun h hh=>?_;obtain ⟨o,H1,H⟩:=zab H;refine cu [] 0 (fun h bs=>∃ s_:Unit,o=.inr s_/\(True)/\bs=[]) ?_ ?_
 .skip;apply gr;refine jo [0,3] (fun m h bs=>∃ (i:Int),zcm k l m i=some o/\(h 0=lPat l/\h 3=.int .i64 i)/\bs=[]) ?_ k _ _ ?_;rotate_left
  .exact ⟨0,H1,kq hh,rfl⟩
  clear hh h H1;rintro m h bs ⟨i,H1,hh,rfl⟩;rcases m with _|m
  .rw [zcm] at H1;cases H1
  rw [zcm] at H1;repeat apply fh
  refine rk [0,3,8] [] hh fun h hh=>?_;rcases isp H1 with ⟨c1,H1⟩|⟨c1,H1⟩;rotate_left
  .skip;refine cf (f2 hh (zAb c1)) ?_;refine xk ?_;cases H1;exact ce hh ⟨_,rfl,kq hh,rfl⟩
  refine ct (f2 hh (zAa c1)) ?_;refine sk ?_;apply fh;apply gr;obtain ⟨g2,H1⟩:=isg H1;obtain ⟨bk,e3,H1⟩:=zab H1;apply fh;refine rkp [0,3,4] [] [.bool bk] (f2 hh (zag g2)) ?_ ?_
  .exact ⟨ge ((zl2 ax hx k (gx l i) bk e3 ).call _),trivial⟩
  clear hh h;intro h hh;apply fh;refine rk [0,3,17] [] hh fun h hh=>?_;rcases isb H1 with ⟨c4,H1⟩|⟨c4,H1⟩;rotate_left
  .skip;refine ct (f2 hh c4) ?_;apply fh;refine rk [2] [] (f2 hh c4) fun h hh=>?_;cases H1;obtain rfl:=sinl H;exact rt hh
  refine cf (f2 hh c4) ?_;refine sk ?_;refine rk [0,3] [] (f2 hh c4) fun h hh=>?_;exact rd m hh ⟨(fj.wrap (i+1)),H1,kq hh,rfl⟩
 clear hh h;rintro h bs ⟨s_,rfl,hh,rfl⟩;replace H:=sinr H;apply fh;refine rk [2] [] hh fun h hh=>?_;cases H;exact rt hh
def zd5 (k:Nat) (m_:Pat):Nat->Int->(Ar 10)->Option (Ar 10)
 |0,_,_=>none
 |m+1,i,x=>(if i<160 then ((zdv k m_.mask i).bind fun aj=>(if aj=1 then ((zdv k m_.bits i).bind fun av=>((zfs k x i av).bind fun ai=>zd5 k m_ m (fj.wrap (i+1)) ai)) else zd5 k m_ m (fj.wrap (i+1)) x)) else some x)
def zln (k:Nat) (m_:Pat) (h_:Ar 10):Option (Ar 10):=((zd5 k m_ k 0 h_:Option (Ar 10)).bind fun s_=>some s_)
theorem zz7 (ax:Axs) (hx:NoAx ax) (k:Nat) (m_:Pat) (h_:Ar 10) (v:Ar 10) (H:zln k m_ h_=some v):Pure Try.prog (EE ax) [] 81 [ePat m_,.agg (h_.l.map (fi .i64))] (.agg (v.l.map (fi .i64))):=by
 rw [zln] at H;refine en [.cell 4 43] 23 [0,1] (hx.no _ (by decide)) (fn81 ax) ?_;intro h hh;apply fh;refine rk [2,3,4] [] hh fun h hh=>?_;repeat apply fh
 refine rk [2,3,4,5] [] hh fun h hh=>?_;obtain ⟨s_,H1,H⟩:=zab H;refine cu [3,4] 3 (fun h bs=>(h 3=.ptr 1 0 10/\h 4=.ptr 2 0 10)/\bs=[.cells true 20 (m_.mask.l.map (fi .i64)++(m_.bits.l.map (fi .i64))),.cells true 10 (s_.l.map (fi .i64)),.cells true 10 ((zA 10).l.map (fi .i64))]) ?_ ?_
 .skip;apply gr;refine jo [2,3,4,5] (fun m h bs=>∃ (i:Int) (x:Ar 10),zd5 k m_ m i x=some s_/\(h 2=.ptr 0 0 20/\h 3=.ptr 1 0 10/\h 4=.ptr 2 0 10/\h 5=.int .i64 i)/\bs=[.cells true 20 (m_.mask.l.map (fi .i64)++(m_.bits.l.map (fi .i64))),.cells true 10 (x.l.map (fi .i64)),.cells true 10 ((zA 10).l.map (fi .i64))]) ?_ k _ _ ?_;rotate_left
  .exact ⟨0,h_,H1,kq hh,rfl⟩
  clear hh h H1;rintro m h bs ⟨i,x,H1,hh,rfl⟩;rcases m with _|m
  .rw [zd5] at H1;cases H1
  rw [zd5] at H1;repeat apply fh
  refine rk [2,3,4,5,7] [] hh fun h hh=>?_;rcases isp H1 with ⟨c1,H1⟩|⟨c1,H1⟩;rotate_left
  .skip;refine cf (f2 hh (zAb c1)) ?_;refine xk ?_;cases H1;exact ce hh ⟨kq hh,rfl⟩
  refine ct (f2 hh (zAa c1)) ?_;refine sk ?_;apply fh;apply gr;obtain ⟨aj,e2,H1⟩:=zab H1;apply fh;refine rkp [2,3,4,5,14] [] [.int .i64 aj] hh ?_ ?_
  .exact ⟨ge ((zbm ax hx k m_.mask i aj e2 ).call _),trivial⟩
  clear hh h;intro h hh;rcases isp H1 with ⟨c3,H1⟩|⟨c3,H1⟩;rotate_left
  .skip;refine cf (f2 hh (zAb c3)) ?_;refine sk ?_;refine rk [2,3,4,5] [] hh fun h hh=>?_;exact rd m hh ⟨(fj.wrap (i+1)),x,H1,kq hh,rfl⟩
  refine ct (f2 hh (zAa c3)) ?_;obtain ⟨av,e4,H1⟩:=zab H1;obtain ⟨ai,e5,H1⟩:=zab H1;refine dk 6 [2,3,4,5] [.int .i64 av] [] [(.agg (ai.l.map (fi .i64)),stL [.cells true 20 (m_.mask.l.map (fi .i64)++(m_.bits.l.map (fi .i64))),.cells true 10 (x.l.map (fi .i64)),.cells true 10 ((zA 10).l.map (fi .i64))])] hh ?_ ?_ ?_
  .exact ⟨(zbm ax hx k m_.bits i av e4 ).call _,trivial⟩
  .exact ⟨ge ((zfz ax hx k x i av ai e5 ).call _),trivial⟩
  clear hh h;intro h hh;refine rk [2,3,4,5] [] hh fun h hh=>?_;exact rd m hh ⟨(fj.wrap (i+1)),ai,H1,kq hh,rfl⟩
 clear hh h;rintro h bs ⟨hh,rfl⟩;apply fh;refine rk [4] [] hh fun h hh=>?_;cases H;exact rtc hh
def zey (k:Nat) (p:Pat):Nat->Int->Int->Option Int
 |0,_,_=>none
 |m+1,n,i=>(if i<160 then ((zdv k p.mask i).bind fun aj=>zey k p m (fj.wrap ((fj.wrap (n+1)) - aj)) (fj.wrap (i+1))) else some n)
def znc (k:Nat) (p:Pat):Option Int:=((zey k p k 0 0:Option Int).bind fun s_=>some s_)
theorem z10 (ax:Axs) (hx:NoAx ax) (k:Nat) (p:Pat) (v:Int) (H:znc k p=some v):Pure Try.prog (EE ax) [] 82 [ePat p] (.int .i64 v):=by
 rw [znc] at H;refine en [.tmp 2] 17 [0] (hx.no _ (by decide)) (fn82 ax) ?_;intro h hh;apply fh;refine rk [1] [] hh fun h hh=>?_;apply fh;refine rk [1,3] [] hh fun h hh=>?_;repeat apply fh
 refine rk [1,3,4] [] hh fun h hh=>?_;obtain ⟨s_,H1,H⟩:=zab H;refine cu [3] 1 (fun h bs=>(h 3=.int .i64 s_)/\bs=[.cells true 20 (p.mask.l.map (fi .i64)++(p.bits.l.map (fi .i64)))]) ?_ ?_
 .skip;apply gr;refine jo [1,3,4] (fun m h bs=>∃ (n:Int) (i:Int),zey k p m n i=some s_/\(h 1=.ptr 0 0 20/\h 3=.int .i64 n/\h 4=.int .i64 i)/\bs=[.cells true 20 (p.mask.l.map (fi .i64)++(p.bits.l.map (fi .i64)))]) ?_ k _ _ ?_;rotate_left
  .exact ⟨0,0,H1,kq hh,rfl⟩
  clear hh h H1;rintro m h bs ⟨n,i,H1,hh,rfl⟩;rcases m with _|m
  .rw [zey] at H1;cases H1
  rw [zey] at H1;repeat apply fh
  refine rk [1,3,4,6] [] hh fun h hh=>?_;rcases isp H1 with ⟨c1,H1⟩|⟨c1,H1⟩;rotate_left
  .skip;refine cf (f2 hh (zAb c1)) ?_;refine xk ?_;cases H1;exact ce hh ⟨kq hh,rfl⟩
  refine ct (f2 hh (zAa c1)) ?_;refine sk ?_;apply fh;apply gr;obtain ⟨aj,e2,H1⟩:=zab H1;refine rkp [1,3,4] [] [.int .i64 aj] hh ?_ ?_
  .exact ⟨ge ((zbm ax hx k p.mask i aj e2 ).call _),trivial⟩
  clear hh h;intro h hh;refine rk [1,3,4] [] hh fun h hh=>?_;exact rd m hh ⟨(fj.wrap ((fj.wrap (n+1)) - aj)),(fj.wrap (i+1)),H1,kq hh,rfl⟩
 clear hh h;rintro h bs ⟨hh,rfl⟩;apply fh;refine rk [2] [] hh fun h hh=>?_;cases H;exact rt hh
def zfc (k:Nat) (l:List Pat):Nat->Int->(Ar 10)->Option (Ar 10)
 |0,_,_=>none
 |m+1,i,x=>(if i<(l.length:Int) then (if 0<=i/\i<(l.length:Int) then ((zln k (⟨(gx l i).mask,(gx l i).mask⟩:Pat) x).bind fun ah=>zfc k l m (fj.wrap (i+1)) ah) else none) else some x)
def zlm (k:Nat) (l:List Pat):Option Int:=((zfc k l k 0 (zA 10):Option (Ar 10)).bind fun s_=>((znc k (⟨s_,(zA 10)⟩:Pat)).bind fun d9=>some (fj.wrap (160 - d9))))
theorem zz6 (ax:Axs) (hx:NoAx ax) (k:Nat) (l:List Pat) (v:Int) (H:zlm k l=some v):Pure Try.prog (EE ax) [] 69 [lPat l] (.int .i64 v):=by
 rw [zlm] at H;refine en [.tmp 2] 30 [0] (hx.no _ (by decide)) (fn69 ax) ?_;intro h hh;apply fh;refine rk [0] [] hh fun h hh=>?_;apply fh;refine rk [0,3] [] hh fun h hh=>?_;repeat apply fh
 refine rk [0,3,4] [] hh fun h hh=>?_;obtain ⟨s_,H1,H⟩:=zab H;refine cu [3] 1 (fun h bs=>(h 3=.ptr 0 0 20)/\bs=[.cells true 20 (s_.l.map (fi .i64)++((zA 10).l.map (fi .i64)))]) ?_ ?_
 .skip;apply gr;refine jo [0,3,4] (fun m h bs=>∃ (i:Int) (x:Ar 10),zfc k l m i x=some s_/\(h 0=lPat l/\h 3=.ptr 0 0 20/\h 4=.int .i64 i)/\bs=[.cells true 20 (x.l.map (fi .i64)++((zA 10).l.map (fi .i64)))]) ?_ k _ _ ?_;rotate_left
  .exact ⟨0,(zA 10),H1,kq hh,rfl⟩
  clear hh h H1;rintro m h bs ⟨i,x,H1,hh,rfl⟩;rcases m with _|m
  .rw [zfc] at H1;cases H1
  rw [zfc] at H1;repeat apply fh
  refine rk [0,3,4,9] [] hh fun h hh=>?_;rcases isp H1 with ⟨c1,H1⟩|⟨c1,H1⟩;rotate_left
  .skip;refine cf (f2 hh (zAb c1)) ?_;refine xk ?_;cases H1;exact ce hh ⟨kq hh,rfl⟩
  refine ct (f2 hh (zAa c1)) ?_;refine sk ?_;apply fh;apply gr;obtain ⟨g2,H1⟩:=isg H1;obtain ⟨ah,e3,H1⟩:=zab H1;refine dk 13 [0,3,4] [] [] [(.agg (ah.l.map (fi .i64)),stL [.cells true 20 (x.l.map (fi .i64)++((zA 10).l.map (fi .i64)))])] (f2 hh (zag g2)) trivial ?_ ?_
  .exact ⟨ge ((zz7 ax hx k (⟨(gx l i).mask,(gx l i).mask⟩:Pat) x ah e3 ).call _),trivial⟩
  clear hh h;intro h hh;refine rk [0,3,4] [] hh fun h hh=>?_;exact rd m hh ⟨(fj.wrap (i+1)),ah,H1,kq hh,rfl⟩
 clear hh h;rintro h bs ⟨hh,rfl⟩;obtain ⟨d9,e4,H⟩:=zab H;apply fh;refine rkp [2] [] [.int .i64 d9] hh ?_ ?_
 .exact ⟨ge ((z10 ax hx k (⟨s_,(zA 10)⟩:Pat) d9 e4 ).call _),trivial⟩
 clear hh h;intro h hh;cases H;exact rt hh
def zpy (k:Nat) (l:List Pat) (most:Int):Option Bool:=((zhz k l).bind fun ed=>(if ed=true then (if (l.length:Int)<=most then ((zlm k l).bind fun ee=>some (decide (ee<=12))) else some false) else some false))
theorem z5c (ax:Axs) (hx:NoAx ax) (k:Nat) (l:List Pat) (most:Int) (v:Bool) (H:zpy k l most=some v):Pure Try.prog (EE ax) [] 53 [lPat l,.int .i64 most] (.bool v):=by
 rw [zpy] at H;refine en [.tmp 4] 20 [0,1] (hx.no _ (by decide)) (fn53 ax) ?_;intro h hh;apply fh;refine rk [0,1] [] hh fun h hh=>?_;obtain ⟨ed,e1,H⟩:=zab H;apply fh;refine rkp [0,1,5] [] [.bool ed] hh ?_ ?_
 .exact ⟨ge ((zss ax hx k l ed e1 ).call _),trivial⟩
 clear hh h;intro h hh;rcases isb H with ⟨c2,H⟩|⟨c2,H⟩;rotate_left
 .skip;apply fh;refine rk [4] [] (f2 hh c2) fun h hh=>?_;cases H;exact rt hh
 rcases isp H with ⟨c3,H⟩|⟨c3,H⟩;rotate_left
 .skip;apply fh;refine rk [4] [] (f3 hh c2 (zAb c3)) fun h hh=>?_;cases H;exact rt hh
 obtain ⟨ee,e4,H⟩:=zab H;apply fh;refine rkp [4] [] [.int .i64 ee] (f3 hh c2 (zAa c3)) ?_ ?_
 .exact ⟨ge (ja (zz6 ax hx k l ee e4 ) (by first|rfl|simp only [c2])),trivial⟩
 clear hh h;intro h hh;cases H;exact rt hh
def zlh (k:Nat) (t:List Rule):Option Bool:=((zhb k t (t.length:Int)).bind fun ac=>((zpy k ac 12).bind fun cb=>some cb))
theorem zz2 (ax:Axs) (hx:NoAx ax) (k:Nat) (t:List Rule) (v:Bool) (H:zlh k t=some v):Pure Try.prog (EE ax) [] 30 [zae t] (.bool v):=by
 rw [zlh] at H;refine en [.tmp 2] 8 [0] (hx.no _ (by decide)) (fn30 ax) ?_;intro h hh;apply fh;refine rk [0] [] hh fun h hh=>?_;obtain ⟨ac,e1,H⟩:=zab H;obtain ⟨cb,e2,H⟩:=zab H;apply fh;refine rkp [2] [] [lPat ac,.bool cb] hh ?_ ?_
 .exact ⟨ge ((zkw ax hx k t (t.length:Int) ac e1 ).call _),ge ((z5c ax hx k ac 12 cb e2 ).call _),trivial⟩
 clear hh h;intro h hh;cases H;exact rt hh
def zct (k:Nat) (x:Int):Option Int:=(if (0:Int)<=1 then (if (0:Int)<=2 then (if (0:Int)<=4 then (if (0:Int)<=8 then (if (0:Int)<=16 then (if (0:Int)<=32 then some (iAnd .i64 (fj.wrap (f6.wrap ((f6.wrap ((f6.wrap ((iAnd .u64 (f6.wrap ((iShr .u64 (f6.wrap ((iAnd .u64 (iShr .u64 (f6.wrap ((iAnd .u64 (iShr .u64 x 1) 6148914691236517205)+(iAnd .u64 x 6148914691236517205))) 2) 3689348814741910323)+(iAnd .u64 (f6.wrap ((iAnd .u64 (iShr .u64 x 1) 6148914691236517205)+(iAnd .u64 x 6148914691236517205))) 3689348814741910323))) 4)+(f6.wrap ((iAnd .u64 (iShr .u64 (f6.wrap ((iAnd .u64 (iShr .u64 x 1) 6148914691236517205)+(iAnd .u64 x 6148914691236517205))) 2) 3689348814741910323)+(iAnd .u64 (f6.wrap ((iAnd .u64 (iShr .u64 x 1) 6148914691236517205)+(iAnd .u64 x 6148914691236517205))) 3689348814741910323))))) 1085102592571150095)+(iShr .u64 (iAnd .u64 (f6.wrap ((iShr .u64 (f6.wrap ((iAnd .u64 (iShr .u64 (f6.wrap ((iAnd .u64 (iShr .u64 x 1) 6148914691236517205)+(iAnd .u64 x 6148914691236517205))) 2) 3689348814741910323)+(iAnd .u64 (f6.wrap ((iAnd .u64 (iShr .u64 x 1) 6148914691236517205)+(iAnd .u64 x 6148914691236517205))) 3689348814741910323))) 4)+(f6.wrap ((iAnd .u64 (iShr .u64 (f6.wrap ((iAnd .u64 (iShr .u64 x 1) 6148914691236517205)+(iAnd .u64 x 6148914691236517205))) 2) 3689348814741910323)+(iAnd .u64 (f6.wrap ((iAnd .u64 (iShr .u64 x 1) 6148914691236517205)+(iAnd .u64 x 6148914691236517205))) 3689348814741910323))))) 1085102592571150095) 8)))+(iShr .u64 (f6.wrap ((iAnd .u64 (f6.wrap ((iShr .u64 (f6.wrap ((iAnd .u64 (iShr .u64 (f6.wrap ((iAnd .u64 (iShr .u64 x 1) 6148914691236517205)+(iAnd .u64 x 6148914691236517205))) 2) 3689348814741910323)+(iAnd .u64 (f6.wrap ((iAnd .u64 (iShr .u64 x 1) 6148914691236517205)+(iAnd .u64 x 6148914691236517205))) 3689348814741910323))) 4)+(f6.wrap ((iAnd .u64 (iShr .u64 (f6.wrap ((iAnd .u64 (iShr .u64 x 1) 6148914691236517205)+(iAnd .u64 x 6148914691236517205))) 2) 3689348814741910323)+(iAnd .u64 (f6.wrap ((iAnd .u64 (iShr .u64 x 1) 6148914691236517205)+(iAnd .u64 x 6148914691236517205))) 3689348814741910323))))) 1085102592571150095)+(iShr .u64 (iAnd .u64 (f6.wrap ((iShr .u64 (f6.wrap ((iAnd .u64 (iShr .u64 (f6.wrap ((iAnd .u64 (iShr .u64 x 1) 6148914691236517205)+(iAnd .u64 x 6148914691236517205))) 2) 3689348814741910323)+(iAnd .u64 (f6.wrap ((iAnd .u64 (iShr .u64 x 1) 6148914691236517205)+(iAnd .u64 x 6148914691236517205))) 3689348814741910323))) 4)+(f6.wrap ((iAnd .u64 (iShr .u64 (f6.wrap ((iAnd .u64 (iShr .u64 x 1) 6148914691236517205)+(iAnd .u64 x 6148914691236517205))) 2) 3689348814741910323)+(iAnd .u64 (f6.wrap ((iAnd .u64 (iShr .u64 x 1) 6148914691236517205)+(iAnd .u64 x 6148914691236517205))) 3689348814741910323))))) 1085102592571150095) 8))) 16)))+(iShr .u64 (f6.wrap ((f6.wrap ((iAnd .u64 (f6.wrap ((iShr .u64 (f6.wrap ((iAnd .u64 (iShr .u64 (f6.wrap ((iAnd .u64 (iShr .u64 x 1) 6148914691236517205)+(iAnd .u64 x 6148914691236517205))) 2) 3689348814741910323)+(iAnd .u64 (f6.wrap ((iAnd .u64 (iShr .u64 x 1) 6148914691236517205)+(iAnd .u64 x 6148914691236517205))) 3689348814741910323))) 4)+(f6.wrap ((iAnd .u64 (iShr .u64 (f6.wrap ((iAnd .u64 (iShr .u64 x 1) 6148914691236517205)+(iAnd .u64 x 6148914691236517205))) 2) 3689348814741910323)+(iAnd .u64 (f6.wrap ((iAnd .u64 (iShr .u64 x 1) 6148914691236517205)+(iAnd .u64 x 6148914691236517205))) 3689348814741910323))))) 1085102592571150095)+(iShr .u64 (iAnd .u64 (f6.wrap ((iShr .u64 (f6.wrap ((iAnd .u64 (iShr .u64 (f6.wrap ((iAnd .u64 (iShr .u64 x 1) 6148914691236517205)+(iAnd .u64 x 6148914691236517205))) 2) 3689348814741910323)+(iAnd .u64 (f6.wrap ((iAnd .u64 (iShr .u64 x 1) 6148914691236517205)+(iAnd .u64 x 6148914691236517205))) 3689348814741910323))) 4)+(f6.wrap ((iAnd .u64 (iShr .u64 (f6.wrap ((iAnd .u64 (iShr .u64 x 1) 6148914691236517205)+(iAnd .u64 x 6148914691236517205))) 2) 3689348814741910323)+(iAnd .u64 (f6.wrap ((iAnd .u64 (iShr .u64 x 1) 6148914691236517205)+(iAnd .u64 x 6148914691236517205))) 3689348814741910323))))) 1085102592571150095) 8)))+(iShr .u64 (f6.wrap ((iAnd .u64 (f6.wrap ((iShr .u64 (f6.wrap ((iAnd .u64 (iShr .u64 (f6.wrap ((iAnd .u64 (iShr .u64 x 1) 6148914691236517205)+(iAnd .u64 x 6148914691236517205))) 2) 3689348814741910323)+(iAnd .u64 (f6.wrap ((iAnd .u64 (iShr .u64 x 1) 6148914691236517205)+(iAnd .u64 x 6148914691236517205))) 3689348814741910323))) 4)+(f6.wrap ((iAnd .u64 (iShr .u64 (f6.wrap ((iAnd .u64 (iShr .u64 x 1) 6148914691236517205)+(iAnd .u64 x 6148914691236517205))) 2) 3689348814741910323)+(iAnd .u64 (f6.wrap ((iAnd .u64 (iShr .u64 x 1) 6148914691236517205)+(iAnd .u64 x 6148914691236517205))) 3689348814741910323))))) 1085102592571150095)+(iShr .u64 (iAnd .u64 (f6.wrap ((iShr .u64 (f6.wrap ((iAnd .u64 (iShr .u64 (f6.wrap ((iAnd .u64 (iShr .u64 x 1) 6148914691236517205)+(iAnd .u64 x 6148914691236517205))) 2) 3689348814741910323)+(iAnd .u64 (f6.wrap ((iAnd .u64 (iShr .u64 x 1) 6148914691236517205)+(iAnd .u64 x 6148914691236517205))) 3689348814741910323))) 4)+(f6.wrap ((iAnd .u64 (iShr .u64 (f6.wrap ((iAnd .u64 (iShr .u64 x 1) 6148914691236517205)+(iAnd .u64 x 6148914691236517205))) 2) 3689348814741910323)+(iAnd .u64 (f6.wrap ((iAnd .u64 (iShr .u64 x 1) 6148914691236517205)+(iAnd .u64 x 6148914691236517205))) 3689348814741910323))))) 1085102592571150095) 8))) 16))) 32)))) 127) else none) else none) else none) else none) else none) else none)
theorem zky (ax:Axs) (hx:NoAx ax) (k:Nat) (x:Int) (v:Int) (H:zct k x=some v):Pure Try.prog (EE ax) [] 72 [.int .u64 x] (.int .i64 v):=by
 rw [zct] at H;refine en [.tmp 2] 35 [0] (hx.no _ (by decide)) (fn72 ax) ?_;intro h hh;apply fh;refine rk [0] [] hh fun h hh=>?_;obtain ⟨g1,H⟩:=isg H;apply fh;refine rk [0] [] (f2 hh (zyh (k:=.u64) (k':=.u64) (a:=x) g1)) fun h hh=>?_;obtain ⟨g2,H⟩:=isg H;apply fh;refine rk [0] [] (f2 hh (zyh (k:=.u64) (k':=.u64) (a:=(f6.wrap ((iAnd .u64 (iShr .u64 x 1) 6148914691236517205)+(iAnd .u64 x 6148914691236517205)))) g2)) fun h hh=>?_;obtain ⟨g3,H⟩:=isg H;apply fh;refine rk [0] [] (f2 hh (zyh (k:=.u64) (k':=.u64) (a:=(f6.wrap ((iAnd .u64 (iShr .u64 (f6.wrap ((iAnd .u64 (iShr .u64 x 1) 6148914691236517205)+(iAnd .u64 x 6148914691236517205))) 2) 3689348814741910323)+(iAnd .u64 (f6.wrap ((iAnd .u64 (iShr .u64 x 1) 6148914691236517205)+(iAnd .u64 x 6148914691236517205))) 3689348814741910323)))) g3)) fun h hh=>?_;obtain ⟨g4,H⟩:=isg H;apply fh;refine rk [0] [] (f2 hh (zyh (k:=.u64) (k':=.u64) (a:=(iAnd .u64 (f6.wrap ((iShr .u64 (f6.wrap ((iAnd .u64 (iShr .u64 (f6.wrap ((iAnd .u64 (iShr .u64 x 1) 6148914691236517205)+(iAnd .u64 x 6148914691236517205))) 2) 3689348814741910323)+(iAnd .u64 (f6.wrap ((iAnd .u64 (iShr .u64 x 1) 6148914691236517205)+(iAnd .u64 x 6148914691236517205))) 3689348814741910323))) 4)+(f6.wrap ((iAnd .u64 (iShr .u64 (f6.wrap ((iAnd .u64 (iShr .u64 x 1) 6148914691236517205)+(iAnd .u64 x 6148914691236517205))) 2) 3689348814741910323)+(iAnd .u64 (f6.wrap ((iAnd .u64 (iShr .u64 x 1) 6148914691236517205)+(iAnd .u64 x 6148914691236517205))) 3689348814741910323))))) 1085102592571150095)) g4)) fun h hh=>?_;obtain ⟨g5,H⟩:=isg H;apply fh;refine rk [0] [] (f2 hh (zyh (k:=.u64) (k':=.u64) (a:=(f6.wrap ((iAnd .u64 (f6.wrap ((iShr .u64 (f6.wrap ((iAnd .u64 (iShr .u64 (f6.wrap ((iAnd .u64 (iShr .u64 x 1) 6148914691236517205)+(iAnd .u64 x 6148914691236517205))) 2) 3689348814741910323)+(iAnd .u64 (f6.wrap ((iAnd .u64 (iShr .u64 x 1) 6148914691236517205)+(iAnd .u64 x 6148914691236517205))) 3689348814741910323))) 4)+(f6.wrap ((iAnd .u64 (iShr .u64 (f6.wrap ((iAnd .u64 (iShr .u64 x 1) 6148914691236517205)+(iAnd .u64 x 6148914691236517205))) 2) 3689348814741910323)+(iAnd .u64 (f6.wrap ((iAnd .u64 (iShr .u64 x 1) 6148914691236517205)+(iAnd .u64 x 6148914691236517205))) 3689348814741910323))))) 1085102592571150095)+(iShr .u64 (iAnd .u64 (f6.wrap ((iShr .u64 (f6.wrap ((iAnd .u64 (iShr .u64 (f6.wrap ((iAnd .u64 (iShr .u64 x 1) 6148914691236517205)+(iAnd .u64 x 6148914691236517205))) 2) 3689348814741910323)+(iAnd .u64 (f6.wrap ((iAnd .u64 (iShr .u64 x 1) 6148914691236517205)+(iAnd .u64 x 6148914691236517205))) 3689348814741910323))) 4)+(f6.wrap ((iAnd .u64 (iShr .u64 (f6.wrap ((iAnd .u64 (iShr .u64 x 1) 6148914691236517205)+(iAnd .u64 x 6148914691236517205))) 2) 3689348814741910323)+(iAnd .u64 (f6.wrap ((iAnd .u64 (iShr .u64 x 1) 6148914691236517205)+(iAnd .u64 x 6148914691236517205))) 3689348814741910323))))) 1085102592571150095) 8)))) g5)) fun h hh=>?_;obtain ⟨g6,H⟩:=isg H;apply fh;refine rk [0] [] (f2 hh (zyh (k:=.u64) (k':=.u64) (a:=(f6.wrap ((f6.wrap ((iAnd .u64 (f6.wrap ((iShr .u64 (f6.wrap ((iAnd .u64 (iShr .u64 (f6.wrap ((iAnd .u64 (iShr .u64 x 1) 6148914691236517205)+(iAnd .u64 x 6148914691236517205))) 2) 3689348814741910323)+(iAnd .u64 (f6.wrap ((iAnd .u64 (iShr .u64 x 1) 6148914691236517205)+(iAnd .u64 x 6148914691236517205))) 3689348814741910323))) 4)+(f6.wrap ((iAnd .u64 (iShr .u64 (f6.wrap ((iAnd .u64 (iShr .u64 x 1) 6148914691236517205)+(iAnd .u64 x 6148914691236517205))) 2) 3689348814741910323)+(iAnd .u64 (f6.wrap ((iAnd .u64 (iShr .u64 x 1) 6148914691236517205)+(iAnd .u64 x 6148914691236517205))) 3689348814741910323))))) 1085102592571150095)+(iShr .u64 (iAnd .u64 (f6.wrap ((iShr .u64 (f6.wrap ((iAnd .u64 (iShr .u64 (f6.wrap ((iAnd .u64 (iShr .u64 x 1) 6148914691236517205)+(iAnd .u64 x 6148914691236517205))) 2) 3689348814741910323)+(iAnd .u64 (f6.wrap ((iAnd .u64 (iShr .u64 x 1) 6148914691236517205)+(iAnd .u64 x 6148914691236517205))) 3689348814741910323))) 4)+(f6.wrap ((iAnd .u64 (iShr .u64 (f6.wrap ((iAnd .u64 (iShr .u64 x 1) 6148914691236517205)+(iAnd .u64 x 6148914691236517205))) 2) 3689348814741910323)+(iAnd .u64 (f6.wrap ((iAnd .u64 (iShr .u64 x 1) 6148914691236517205)+(iAnd .u64 x 6148914691236517205))) 3689348814741910323))))) 1085102592571150095) 8)))+(iShr .u64 (f6.wrap ((iAnd .u64 (f6.wrap ((iShr .u64 (f6.wrap ((iAnd .u64 (iShr .u64 (f6.wrap ((iAnd .u64 (iShr .u64 x 1) 6148914691236517205)+(iAnd .u64 x 6148914691236517205))) 2) 3689348814741910323)+(iAnd .u64 (f6.wrap ((iAnd .u64 (iShr .u64 x 1) 6148914691236517205)+(iAnd .u64 x 6148914691236517205))) 3689348814741910323))) 4)+(f6.wrap ((iAnd .u64 (iShr .u64 (f6.wrap ((iAnd .u64 (iShr .u64 x 1) 6148914691236517205)+(iAnd .u64 x 6148914691236517205))) 2) 3689348814741910323)+(iAnd .u64 (f6.wrap ((iAnd .u64 (iShr .u64 x 1) 6148914691236517205)+(iAnd .u64 x 6148914691236517205))) 3689348814741910323))))) 1085102592571150095)+(iShr .u64 (iAnd .u64 (f6.wrap ((iShr .u64 (f6.wrap ((iAnd .u64 (iShr .u64 (f6.wrap ((iAnd .u64 (iShr .u64 x 1) 6148914691236517205)+(iAnd .u64 x 6148914691236517205))) 2) 3689348814741910323)+(iAnd .u64 (f6.wrap ((iAnd .u64 (iShr .u64 x 1) 6148914691236517205)+(iAnd .u64 x 6148914691236517205))) 3689348814741910323))) 4)+(f6.wrap ((iAnd .u64 (iShr .u64 (f6.wrap ((iAnd .u64 (iShr .u64 x 1) 6148914691236517205)+(iAnd .u64 x 6148914691236517205))) 2) 3689348814741910323)+(iAnd .u64 (f6.wrap ((iAnd .u64 (iShr .u64 x 1) 6148914691236517205)+(iAnd .u64 x 6148914691236517205))) 3689348814741910323))))) 1085102592571150095) 8))) 16)))) g6)) ?_
 clear hh h;intro h hh;apply fh;refine rk [2] [] hh fun h hh=>?_;cases H;exact rt hh
def zdf (k:Nat) (x:Int):Option Int:=((zct k x).bind fun ef=>some ef)
theorem zl3 (ax:Axs) (hx:NoAx ax) (k:Nat) (x:Int) (v:Int) (H:zdf k x=some v):Pure Try.prog (EE ax) [] 55 [.int .u64 x] (.int .i64 v):=by
 rw [zdf] at H;refine en [.tmp 2] 8 [0] (hx.no _ (by decide)) (fn55 ax) ?_;intro h hh;apply fh;refine rk [0] [] hh fun h hh=>?_;apply fh;refine cf hh ?_;refine sk ?_;obtain ⟨ef,e1,H⟩:=zab H;apply fh;refine rkp [2] [] [.int .i64 ef] hh ?_ ?_
 .exact ⟨ge ((zky ax hx k x ef e1 ).call _),trivial⟩
 clear hh h;intro h hh;cases H;exact rt hh
def zfe (k:Nat) (q:Pat):Nat->Int->Int->(Ar 10)->(Ar 10)->Option (Int×Ar 10×Ar 10)
 |0,_,_,_,_=>none
 |m+1,n,i,x,x2=>(if i<10 then (if 0<=i/\i<(10:Int) then ((zdf k (f6.wrap (iXor .i64 (gx x2.l i) (gx q.bits.l i)))).bind fun dl=>zfe k q m (fj.wrap (n+dl)) (fj.wrap (i+1)) (x.set i (zh4 .i64 (gx x.l i) (iXor .i64 (gx x2.l i) (gx q.bits.l i)))) (x2.set i (zh4 .i64 (gx x2.l i) (iXor .i64 (gx x2.l i) (gx q.bits.l i))))) else none) else some (n,x,x2))
def zik (k:Nat) (p:Pat) (q:Pat):Option (Pat×Bool):=(if p.mask=q.mask then ((zfe k q k 0 0 p.mask p.bits:Option (Int×Ar 10×Ar 10)).bind fun s_=>(if s_.1≠1 then some ((⟨zA 10,zA 10⟩:Pat),false) else some ((⟨s_.2.1,s_.2.2⟩:Pat),true))) else some ((⟨zA 10,zA 10⟩:Pat),false))
theorem zp2 (ax:Axs) (hx:NoAx ax) (k:Nat) (p:Pat) (q:Pat) (v:Pat×Bool) (H:zik k p q=some v):Pure Try.prog (EE ax) [] 34 [ePat p,ePat q] (tupT [ePat v.1,.bool v.2]):=by
 rw [zik] at H;refine enN [.cell 4 56,.tmp 5] 53 [0,1] (hx.no _ (by decide)) (fn34 ax) ?_;intro h hh;apply fh;refine rk [2,3,4] [] hh fun h hh=>?_;apply fh;refine rk [2,3,4,6] [] hh fun h hh=>?_;repeat apply fh
 refine rk [2,3,4,6,13] [] (f2 hh ((aq43 ax p.mask q.mask).2)) fun h hh=>?_;rcases isp H with ⟨c1,H⟩|⟨c1,H⟩;rotate_left
 .skip;refine ct (f2 hh (zAb c1)) ?_;apply fh;refine rk [4,5] [] hh fun h hh=>?_;cases H;exact rtc hh
 refine cf (f2 hh (zAa c1)) ?_;refine sk ?_;repeat apply fh
 refine rk [2,3,4,6,15] [] hh fun h hh=>?_;obtain ⟨s_,H1,H⟩:=zab H;refine cu [2,4,6] 3 (fun h bs=>(h 2=.ptr 0 0 20/\h 4=.ptr 2 0 20/\h 6=.int .i64 s_.1)/\bs=[.cells true 20 (s_.2.1.l.map (fi .i64)++(s_.2.2.l.map (fi .i64))),.cells true 20 (q.mask.l.map (fi .i64)++(q.bits.l.map (fi .i64))),.cells true 20 ((zA 10).l.map (fi .i64)++((zA 10).l.map (fi .i64)))]) ?_ ?_
 .skip;apply gr;refine jo [2,3,4,6,15] (fun m h bs=>∃ (n:Int) (i:Int) (x:Ar 10) (x2:Ar 10),zfe k q m n i x x2=some s_/\(h 2=.ptr 0 0 20/\h 3=.ptr 1 0 20/\h 4=.ptr 2 0 20/\h 6=.int .i64 n/\h 15=.int .i64 i)/\bs=[.cells true 20 (x.l.map (fi .i64)++(x2.l.map (fi .i64))),.cells true 20 (q.mask.l.map (fi .i64)++(q.bits.l.map (fi .i64))),.cells true 20 ((zA 10).l.map (fi .i64)++((zA 10).l.map (fi .i64)))]) ?_ k _ _ ?_;rotate_left
  .exact ⟨0,0,p.mask,p.bits,H1,kq hh,rfl⟩
  clear hh h H1;rintro m h bs ⟨n,i,x,x2,H1,hh,rfl⟩;rcases m with _|m
  .rw [zfe] at H1;cases H1
  rw [zfe] at H1;apply fh;refine rk [2,3,4,6,15,16] [] hh fun h hh=>?_;rcases isp H1 with ⟨c2,H1⟩|⟨c2,H1⟩;rotate_left
  .skip;apply fh;refine cf (f2 hh (zAb c2)) ?_;refine xk ?_;cases H1;exact ce hh ⟨kq hh,rfl⟩
  apply fh;refine ct (f2 hh (zAa c2)) ?_;refine sk ?_;apply fh;apply gr;apply fh;refine rk [2,3,4,6,7,15] [] hh fun h hh=>?_;obtain ⟨g3,H1⟩:=isg H1;apply fh;refine dk 8 [2,3,4,6,7,8,15] [] [] [] (f3 hh (zo3 (k:=.i64) (off:=10) (L:=(x.l.map (fi .i64)++(x2.l.map (fi .i64)))) (r:=[]) x2 g3) (zo3 (k:=.i64) (off:=10) (L:=(q.mask.l.map (fi .i64)++(q.bits.l.map (fi .i64)))) (r:=[]) q.bits g3)) trivial trivial fun h hh=>?_;obtain ⟨dl,e4,H1⟩:=zab H1;apply fh;refine rkp [2,3,4,6,7,8,15] [] [.int .i64 dl] hh ?_ ?_
  .exact ⟨ge ((zl3 ax hx k (f6.wrap (iXor .i64 (gx x2.l i) (gx q.bits.l i))) dl e4 ).call _),trivial⟩
  clear hh h;intro h hh;apply fh;refine rk [2,3,4,6,7,8,15] [] (f3 hh (zrr (k:=.i64) (L:=(x.l.map (fi .i64)++(x2.l.map (fi .i64)))) (r:=(x2.l.map (fi .i64))) x g3) (yc6 (k:=.i64) (L:=(x.l.map (fi .i64)++(x2.l.map (fi .i64)))) (r:=(x2.l.map (fi .i64))) (L2:=((x.set i (zh4 .i64 (gx x.l i) (iXor .i64 (gx x2.l i) (gx q.bits.l i)))).l.map (fi .i64)++(x2.l.map (fi .i64)))) x (zh4 .i64 (gx x.l i) (iXor .i64 (gx x2.l i) (gx q.bits.l i))) g3)) fun h hh=>?_;refine rk [2,3,4,6,15] [] (f3 hh (zo3 (k:=.i64) (off:=10) (L:=((x.set i (zh4 .i64 (gx x.l i) (iXor .i64 (gx x2.l i) (gx q.bits.l i)))).l.map (fi .i64)++(x2.l.map (fi .i64)))) (r:=[]) x2 g3) (setAt (k:=.i64) (off:=10) (L:=((x.set i (zh4 .i64 (gx x.l i) (iXor .i64 (gx x2.l i) (gx q.bits.l i)))).l.map (fi .i64)++(x2.l.map (fi .i64)))) (r:=[]) (L2:=((x.set i (zh4 .i64 (gx x.l i) (iXor .i64 (gx x2.l i) (gx q.bits.l i)))).l.map (fi .i64)++((x2.set i (zh4 .i64 (gx x2.l i) (iXor .i64 (gx x2.l i) (gx q.bits.l i)))).l.map (fi .i64)))) (p:=((x.set i (zh4 .i64 (gx x.l i) (iXor .i64 (gx x2.l i) (gx q.bits.l i)))).l.map (fi .i64))) x2 (zh4 .i64 (gx x2.l i) (iXor .i64 (gx x2.l i) (gx q.bits.l i))) g3)) fun h hh=>?_;refine rk [2,3,4,6,15] [] hh fun h hh=>?_;exact rd m hh ⟨(fj.wrap (n+dl)),(fj.wrap (i+1)),(x.set i (zh4 .i64 (gx x.l i) (iXor .i64 (gx x2.l i) (gx q.bits.l i)))),(x2.set i (zh4 .i64 (gx x2.l i) (iXor .i64 (gx x2.l i) (gx q.bits.l i)))),H1,kq hh,rfl⟩
 clear hh h;rintro h bs ⟨hh,rfl⟩;repeat apply fh
 refine rk [2,4,50] [] hh fun h hh=>?_;rcases isp H with ⟨c5,H⟩|⟨c5,H⟩;rotate_left
 .skip;refine cf (f2 hh (zAb c5)) ?_;refine sk ?_;apply fh;refine rk [4,5] [] hh fun h hh=>?_;cases H;exact rtc hh
 refine ct (f2 hh (zAa c5)) ?_;apply fh;refine rk [4,5] [] hh fun h hh=>?_;cases H;exact rtc hh
def zex (k:Nat) (p:Pat) (q:Pat):Nat->Int->Int->Int->Option (Int×Int)
 |0,_,_,_=>none
 |m+1,at_,n,i=>(if i<160 then ((zdv k p.bits i).bind fun aj=>((zdv k q.bits i).bind fun av=>(if aj≠av then zex k p q m i (fj.wrap (n+1)) (fj.wrap (i+1)) else zex k p q m at_ n (fj.wrap (i+1))))) else some (at_,n))
def znb (k:Nat) (p:Pat) (q:Pat):Option (Pat×Bool):=((zex k p q k (-1) 0 0:Option (Int×Int)).bind fun s_=>(((if p.mask=q.mask then some (decide (s_.2≠1)) else some true):Option Bool).bind fun s_2=>(if s_2=true then some ((⟨zA 10,zA 10⟩:Pat),false) else ((zfs k p.mask s_.1 0).bind fun ai=>((zfs k p.bits s_.1 0).bind fun ar=>some ((⟨ai,ar⟩:Pat),true))))))
theorem z1z (ax:Axs) (hx:NoAx ax) (k:Nat) (p:Pat) (q:Pat) (v:Pat×Bool) (H:znb k p q=some v):Pure Try.prog (EE ax) [] 36 [ePat p,ePat q] (tupT [ePat v.1,.bool v.2]):=by
 rw [znb] at H;refine enN [.cell 4 56,.tmp 5] 46 [0,1] (hx.no _ (by decide)) (fn36 ax) ?_;intro h hh;apply fh;refine rk [2,3,4] [] hh fun h hh=>?_;apply fh;refine rk [2,3,4,6] [] hh fun h hh=>?_;apply fh;refine rk [2,3,4,6,7] [] hh fun h hh=>?_;repeat apply fh
 refine rk [2,3,4,6,7,8] [] hh fun h hh=>?_;obtain ⟨s_,H1,H⟩:=zab H;refine cu [2,3,4,6,7] 3 (fun h bs=>(h 2=.ptr 0 0 20/\h 3=.ptr 1 0 20/\h 4=.ptr 2 0 20/\h 6=.int .i64 s_.1/\h 7=.int .i64 s_.2)/\bs=[.cells true 20 (p.mask.l.map (fi .i64)++(p.bits.l.map (fi .i64))),.cells true 20 (q.mask.l.map (fi .i64)++(q.bits.l.map (fi .i64))),.cells true 20 ((zA 10).l.map (fi .i64)++((zA 10).l.map (fi .i64)))]) ?_ ?_
 .skip;apply gr;refine jo [2,3,4,6,7,8] (fun m h bs=>∃ (at_:Int) (n:Int) (i:Int),zex k p q m at_ n i=some s_/\(h 2=.ptr 0 0 20/\h 3=.ptr 1 0 20/\h 4=.ptr 2 0 20/\h 6=.int .i64 at_/\h 7=.int .i64 n/\h 8=.int .i64 i)/\bs=[.cells true 20 (p.mask.l.map (fi .i64)++(p.bits.l.map (fi .i64))),.cells true 20 (q.mask.l.map (fi .i64)++(q.bits.l.map (fi .i64))),.cells true 20 ((zA 10).l.map (fi .i64)++((zA 10).l.map (fi .i64)))]) ?_ k _ _ ?_;rotate_left
  .exact ⟨(-1),0,0,H1,kq hh,rfl⟩
  clear hh h H1;rintro m h bs ⟨at_,n,i,H1,hh,rfl⟩;rcases m with _|m
  .rw [zex] at H1;cases H1
  rw [zex] at H1;repeat apply fh
  refine rk [2,3,4,6,7,8,10] [] hh fun h hh=>?_;rcases isp H1 with ⟨c1,H1⟩|⟨c1,H1⟩;rotate_left
  .skip;refine cf (f2 hh (zAb c1)) ?_;refine xk ?_;cases H1;exact ce hh ⟨kq hh,rfl⟩
  refine ct (f2 hh (zAa c1)) ?_;refine sk ?_;apply fh;apply gr;obtain ⟨aj,e2,H1⟩:=zab H1;obtain ⟨av,e3,H1⟩:=zab H1;apply fh;refine dk 6 [2,3,4,6,7,8,21] [.int .i64 aj] [] [(.int .i64 av,stL [.cells true 20 (p.mask.l.map (fi .i64)++(p.bits.l.map (fi .i64))),.cells true 20 (q.mask.l.map (fi .i64)++(q.bits.l.map (fi .i64))),.cells true 20 ((zA 10).l.map (fi .i64)++((zA 10).l.map (fi .i64)))])] hh ?_ ?_ ?_
  .exact ⟨(zbm ax hx k p.bits i aj e2 ).call _,trivial⟩
  .exact ⟨ge ((zbm ax hx k q.bits i av e3 ).call _),trivial⟩
  clear hh h;intro h hh;rcases isp H1 with ⟨c4,H1⟩|⟨c4,H1⟩;rotate_left
  .skip;refine cf (f2 hh (zAb c4)) ?_;refine sk ?_;refine rk [2,3,4,6,7,8] [] hh fun h hh=>?_;exact rd m hh ⟨at_,n,(fj.wrap (i+1)),H1,kq hh,rfl⟩
  refine ct (f2 hh (zAa c4)) ?_;apply fh;refine rk [2,3,4,6,7,8] [] hh fun h hh=>?_;refine rk [2,3,4,6,7,8] [] hh fun h hh=>?_;refine rk [2,3,4,6,7,8] [] hh fun h hh=>?_;exact rd m hh ⟨i,(fj.wrap (n+1)),(fj.wrap (i+1)),H1,kq hh,rfl⟩
 clear hh h;rintro h bs ⟨hh,rfl⟩;obtain ⟨s_2,H1,H⟩:=zab H;repeat apply fh
 refine cu [2,4,6,33] 3 (fun h bs=>(h 2=.ptr 0 0 20/\h 4=.ptr 2 0 20/\h 6=.int .i64 s_.1/\h 33=.bool s_2)/\bs=[.cells true 20 (p.mask.l.map (fi .i64)++(p.bits.l.map (fi .i64))),.cells true 20 (q.mask.l.map (fi .i64)++(q.bits.l.map (fi .i64))),.cells true 20 ((zA 10).l.map (fi .i64)++((zA 10).l.map (fi .i64)))]) ?_ ?_
 .skip;rcases isp H1 with ⟨c5,H1⟩|⟨c5,H1⟩;rotate_left
  .skip;refine rk [2,4,6,33] [] (f3 hh (zAb c5) ((aq43 ax p.mask q.mask).2)) fun h hh=>?_;cases H1;exact ce hh ⟨kq hh,rfl⟩
  refine rk [2,4,6,33] [] (f3 hh (zAa c5) ((aq43 ax p.mask q.mask).2)) fun h hh=>?_;cases H1;exact ce hh ⟨kq hh,rfl⟩
 clear hh h;rintro h bs ⟨hh,rfl⟩;rcases isb H with ⟨c6,H⟩|⟨c6,H⟩;rotate_left
 .skip;refine cf (f2 hh c6) ?_;refine sk ?_;obtain ⟨ai,e7,H⟩:=zab H;apply fh;refine rkc [2,4,6] [] [(.agg (ai.l.map (fi .i64)),stL [.cells true 20 (p.mask.l.map (fi .i64)++(p.bits.l.map (fi .i64))),.cells true 20 (q.mask.l.map (fi .i64)++(q.bits.l.map (fi .i64))),.cells true 20 ((zA 10).l.map (fi .i64)++((zA 10).l.map (fi .i64)))])] (f2 hh c6) ?_ ?_
  .exact ⟨ge (ja (zfz ax hx k p.mask s_.1 0 ai e7 ) (by first|rfl|simp only [c6])),trivial⟩
  clear hh h;intro h hh;obtain ⟨ar,e8,H⟩:=zab H;apply fh;refine rkc [2,4] [] [(.agg (ar.l.map (fi .i64)),stL [.cells true 20 (ai.l.map (fi .i64)++(p.bits.l.map (fi .i64))),.cells true 20 (q.mask.l.map (fi .i64)++(q.bits.l.map (fi .i64))),.cells true 20 ((zA 10).l.map (fi .i64)++((zA 10).l.map (fi .i64)))])] (f2 hh c6) ?_ ?_
  .exact ⟨ge (ja (zfz ax hx k p.bits s_.1 0 ar e8 ) (by first|rfl|simp only [c6])),trivial⟩
  clear hh h;intro h hh;apply fh;refine rk [4,5] [] (f2 hh c6) fun h hh=>?_;cases H;exact rtc hh
 refine ct (f2 hh c6) ?_;apply fh;refine rk [4,5] [] (f2 hh c6) fun h hh=>?_;cases H;exact rtc hh
def ziw (k:Nat) (a:Rule) (b:Rule):Option Bool:=((zdr k (⟨b.prio,b.mat,a.step,a.outs⟩:Rule) b).bind fun bg=>some bg)
theorem zt3 (ax:Axs) (hx:NoAx ax) (k:Nat) (a:Rule) (b:Rule) (v:Bool) (H:ziw k a b=some v):Pure Try.prog (EE ax) [] 33 [zaj a,zaj b] (.bool v):=by
 rw [ziw] at H;refine en [.tmp 4] 14 [0,1] (hx.no _ (by decide)) (fn33 ax) ?_;intro h hh;apply fh;refine rk [2,3] [] hh fun h hh=>?_;apply fh;refine ds 5 [(7,some 1),(9,some 0)] [2,3] [] [] [] hh trivial trivial fun h hh=>?_;obtain ⟨bg,e1,H⟩:=zab H;apply fh;refine rkp [4] [] [.bool bg] hh ?_ ?_
 .exact ⟨ge ((zht ax hx k (⟨b.prio,b.mat,a.step,a.outs⟩:Rule) b bg e1 ).call _),trivial⟩
 clear hh h;intro h hh;cases H;exact rt hh
def zld (k:Nat) (a:Rule) (b:Rule):Option Bool:=((zgm k (⟨0,(⟨zA 10,zA 10⟩:Pat),a.step,a.outs⟩:Rule) (⟨0,(⟨zA 10,zA 10⟩:Pat),b.step,b.outs⟩:Rule)).bind fun bg=>some bg)
theorem zz0 (ax:Axs) (hx:NoAx ax) (k:Nat) (a:Rule) (b:Rule) (v:Bool) (H:zld k a b=some v):Pure Try.prog (EE ax) [] 35 [zaj a,zaj b] (.bool v):=by
 rw [zld] at H;refine en [.tmp 4] 14 [0,1] (hx.no _ (by decide)) (fn35 ax) ?_;intro h hh;apply fh;refine rk [2,3] [] hh fun h hh=>?_;apply fh;refine rk [2,3] [] hh fun h hh=>?_;apply fh;refine rk [2,3] [] hh fun h hh=>?_;apply fh;refine rk [2,3] [] hh fun h hh=>?_;apply fh;refine rk [2,3] [] hh fun h hh=>?_;obtain ⟨bg,e1,H⟩:=zab H;apply fh;refine rkp [4] [] [.bool bg] hh ?_ ?_
 .exact ⟨ge ((zmo ax hx k (⟨0,(⟨zA 10,zA 10⟩:Pat),a.step,a.outs⟩:Rule) (⟨0,(⟨zA 10,zA 10⟩:Pat),b.step,b.outs⟩:Rule) bg e1 ).call _),trivial⟩
 clear hh h;intro h hh;cases H;exact rt hh
def zb1 (k:Nat) (t:List Rule) (fv:Pat):Nat->Int->(List Rule)->Nat->Option (List Rule×Nat)
 |0,_,_,_=>none
 |m+1,i,l,n=>(if i<(t.length:Int) then (if 0<=i/\i<(t.length:Int) then ((ziy k ((gx t i).mat) fv).bind fun af=>(if af.2=true then (if (n+1)*201<=1000000000 then zb1 k t fv m (fj.wrap (i+1)) (l++[(⟨(gx t i).prio,af.1,(gx t i).step,(gx t i).outs⟩:Rule)]) (n+1) else none) else zb1 k t fv m (fj.wrap (i+1)) l n)) else none) else some (l,n))
def zgn (k:Nat) (t:List Rule) (fv:Pat):Option (List Rule):=((zb1 k t fv k 0 [] 0:Option (List Rule×Nat)).bind fun s_=>(if s_.1.length=s_.2 then some s_.1 else none))
theorem zmp (ax:Axs) (hx:NoAx ax) (k:Nat) (t:List Rule) (fv:Pat) (v:List Rule) (H:zgn k t fv=some v):Pure Try.prog (EE ax) [] 58 [zae t,.cp (fv.mask.l.map (fi .i64)++(fv.bits.l.map (fi .i64)))] (zae v):=by
 rw [zgn] at H;refine en [.tmp 3] 31 [0,1] (hx.no _ (by decide)) (fn58 ax) ?_;intro h hh;apply fh;refine rk [0,1] [] hh fun h hh=>?_;apply fh;refine rk [0,1,4] [] hh fun h hh=>?_;refine vk 4 23 [0,1,4] hh fun h hh=>?_;repeat apply fh
 refine rk [1,4,9,10,11] [] hh fun h hh=>?_;obtain ⟨s_,H1,H⟩:=zab H;refine cu [4] 1 (fun h bs=>(h 4=.arr 0 23 0 s_.2 s_.2 (s_.2*23))/\bs=[.cells false (s_.2*23) (vecC zaj s_.1)]) ?_ ?_
 .skip;apply gr;refine jo [1,4,9,10,11] (fun m h bs=>∃ (i:Int) (l:List Rule) (n:Nat),zb1 k t fv m i l n=some s_/\(h 1=.cp (fv.mask.l.map (fi .i64)++(fv.bits.l.map (fi .i64)))/\h 4=.arr 0 23 0 n n (n*23)/\h 9=zae t/\h 10=.int .i64 (t.length:Int)/\h 11=.int .i64 i)/\bs=[.cells false (n*23) (vecC zaj l)]) ?_ k _ _ ?_;rotate_left
  .exact ⟨0,[],0,H1,kq hh,rfl⟩
  clear hh h H1;rintro m h bs ⟨i,l,n,H1,hh,rfl⟩;rcases m with _|m
  .rw [zb1] at H1;cases H1
  rw [zb1] at H1;apply fh;refine rk [1,4,9,10,11,12] [] hh fun h hh=>?_;rcases isp H1 with ⟨c1,H1⟩|⟨c1,H1⟩;rotate_left
  .skip;apply fh;refine cf (f2 hh (zAb c1)) ?_;refine xk ?_;cases H1;exact ce hh ⟨kq hh,rfl⟩
  apply fh;refine ct (f2 hh (zAa c1)) ?_;refine sk ?_;apply fh;apply gr;obtain ⟨g2,H1⟩:=isg H1;apply fh;refine rk [1,4,6,9,10,11] [] (f2 hh (zag g2)) fun h hh=>?_;obtain ⟨af,e3,H1⟩:=zab H1;apply fh;refine rkc [1,4,6,7,8,9,10,11] [] [(.tup [ePat af.1,.bool af.2],stL [.cells false (n*23) (vecC zaj l),.cells true 23 (fi .i64 ((gx t i).prio) :: ((((gx t i).mat).mask).l.map (fi .i64)++((((gx t i).mat).bits).l.map (fi .i64)++[fi .i64 ((gx t i).step),za6 ((gx t i).outs)])))])] hh ?_ ?_
  .exact ⟨ge ((zr4 ax hx k ((gx t i).mat) fv af e3 ).call _),trivial⟩
  clear hh h;intro h hh;apply fh;refine rk [1,4,6,7,9,10,11,22] [] hh fun h hh=>?_;rcases isb H1 with ⟨c4,H1⟩|⟨c4,H1⟩;rotate_left
  .skip;refine cf (f2 hh c4) ?_;refine sk ?_;refine rk [1,4,9,10,11] [] (f2 hh c4) fun h hh=>?_;exact rd m hh ⟨(fj.wrap (i+1)),l,n,H1,kq hh,rfl⟩
  refine ct (f2 hh c4) ?_;apply fh;refine rk [1,4,6,9,10,11] [] (f2 hh c4) fun h hh=>?_;obtain ⟨g5,H1⟩:=isg H1;refine rg [] [] [.cells false ((n+1)*23) (vecC zaj (l++[(⟨(gx t i).prio,af.1,(gx t i).step,(gx t i).outs⟩:Rule)])),.cells true 23 (fi .i64 ((gx t i).prio) :: (af.1.mask.l.map (fi .i64)++(af.1.bits.l.map (fi .i64)++[fi .i64 ((gx t i).step),za6 ((gx t i).outs)]))),.cells true 20 (af.1.mask.l.map (fi .i64)++(af.1.bits.l.map (fi .i64)))] (fun h=>h 1=.cp (fv.mask.l.map (fi .i64)++(fv.bits.l.map (fi .i64)))/\h 4=.arr 0 23 0 (n+1) (n+1) ((n+1)*23)/\h 9=zae t/\h 10=.int .i64 (t.length:Int)/\h 11=.int .i64 i) (f3 hh c4 ((show vecC zaj [(⟨(gx t i).prio,af.1,(gx t i).step,(gx t i).outs⟩:Rule)]=(fi .i64 ((⟨(gx t i).prio,af.1,(gx t i).step,(gx t i).outs⟩:Rule).prio) :: ((((⟨(gx t i).prio,af.1,(gx t i).step,(gx t i).outs⟩:Rule).mat).mask).l.map (fi .i64)++((((⟨(gx t i).prio,af.1,(gx t i).step,(gx t i).outs⟩:Rule).mat).bits).l.map (fi .i64)++[fi .i64 ((⟨(gx t i).prio,af.1,(gx t i).step,(gx t i).outs⟩:Rule).step),za6 ((⟨(gx t i).prio,af.1,(gx t i).step,(gx t i).outs⟩:Rule).outs)]))) from zdu.trans rfl))) trivial fun h hh=>?_;refine rk [1,4,9,10,11] [] (f2 hh c4) fun h hh=>?_;exact rd m hh ⟨(fj.wrap (i+1)),(l++[(⟨(gx t i).prio,af.1,(gx t i).step,(gx t i).outs⟩:Rule)]),(n+1),H1,kq hh,rfl⟩
 clear hh h;rintro h bs ⟨hh,rfl⟩;apply fh;refine rk [3] [] hh fun h hh=>?_;obtain ⟨g6,H⟩:=isg H;refine pk 3 (b:=0) (e:=23) (off:=0) (len:=s_.2) (cap:=s_.2) (M:=(s_.2*23)) (s_.1.map zaj) (kq hh) (by rfl) (by omega) (by omega) (by rw [gu];exact zde (fun x=>zav x) g6) (fun t ht=>by obtain ⟨x,_,rfl⟩:=jt.1 ht;first|rfl|exact zgi _|exact za3 _|exact zd9 _|exact zav _ | (rw [ft];rfl)) (by rw [ft]<;>exact g6) (by omega) ?_;rw [zei _ _ _ (by simp only [lzA]<;>omega)];simp only [scA];refine gk [3] hh fun h hh=>?_;cases H;exact rt hh
def zj6 (k:Nat) (t:List Rule) (u:List Rule) (p:Pat):Option Bool:=((zgn k t p).bind fun r1=>((zgn k u p).bind fun r12=>((zho k r1 r12).bind fun br=>some br.2)))
theorem zwl (ax:Axs) (hx:NoAx ax) (k:Nat) (t:List Rule) (u:List Rule) (p:Pat) (v:Bool) (H:zj6 k t u p=some v):Pure Try.prog (EE ax) [] 37 [zae t,zae u,ePat p] (.bool v):=by
 rw [zj6] at H;refine en [.tmp 6] 22 [0,1,2] (hx.no _ (by decide)) (fn37 ax) ?_;intro h hh;apply fh;refine rk [0,1,5] [] hh fun h hh=>?_;refine zk 5 0 20 true (p.mask.l.map (fi .i64)++(p.bits.l.map (fi .i64))) [0,1,5] hh fun h hh=>?_;apply fh;refine rk [0,1,7] [] hh fun h hh=>?_;obtain ⟨r1,e1,H⟩:=zab H;obtain ⟨r12,e2,H⟩:=zab H;obtain ⟨br,e3,H⟩:=zab H;apply fh;refine rkc [9] [] [(zae r1,stL [.gone]),(zae r12,stL [.gone]),(.tup [.agg (br.1.l.map (fi .i64)),.bool br.2],stL [.gone])] hh ?_ ?_
 .exact ⟨ge ((zmp ax hx k t p r1 e1 ).call _),ge ((zmp ax hx k u p r12 e2 ).call _),ge ((zty ax hx k r1 r12 br e3 ).call _),trivial⟩
 clear hh h;intro h hh;apply fh;refine rk [6] [] hh fun h hh=>?_;cases H;exact rt hh
theorem bnd3 {n a b:Nat} (h:a<=b) (h2:b<=n):zca n n (some (.int .i64 (a:Int))) (some (.int .i64 (b:Int))) (some (.int .i64 (n:Int)))=some (a,b,n):=by
  show (bif ib a b && ib b n && ib n n && (Option.isNone (some (Value.int .i64 (n:Int))) || Option.isSome (some (Value.int .i64 (b:Int)))) then some (a,b,n) else none)=_;rw [zar.2 h,zar.2 h2,zar.2 (fp n)];rfl
theorem bndH {n a:Nat} (h:a<=n):zca n n none (some (.int .i64 (a:Int))) none=some (0,a,n):=by
  have:=yqg (n:=n) (j:=(a:Int)) (by omega)
  rwa [jp] at this
theorem bndL {n a:Nat} (h:a<=n):zca n n (some (.int .i64 (a:Int))) none none=some (a,n,n):=by
  have:=yqf (n:=n) (i:=(a:Int)) (by omega)
  rwa [jp] at this
theorem bndB {m n:Nat} (h:m<=n):zca m n (some (.int .i64 (m:Int))) (some (.int .i64 (n:Int))) none=some (m,n,n):=by
  show (bif ib m n && ib n n && ib n n && (Option.isNone (none:Option Value) || Option.isSome (some (Value.int .i64 (n:Int)))) then some (m,n,n) else none)=_;rw [zar.2 h,zar.2 (fp n)];rfl
def delL (l:List Rule) (a b:Nat):List Rule:=l.take a++l.drop b
def zne (k n:Nat) (l:List Rule) (i j:Int):Option (List Rule):=if l.length=n/\0<=i/\i<j/\j<=n/\n*201<=1000000000 then some (delL l i.toNat j.toNat) else none
theorem zdp (x:Rule):(zaj x).cells.length=23:=by
  show (fi .i64 x.prio :: (x.mat.mask.l.map (fi .i64)++(x.mat.bits.l.map (fi .i64)++[fi .i64 x.step,za6 x.outs]))).length=23;simp [x.mat.mask.h,x.mat.bits.h]
theorem z63 (l:List Rule) (n:Nat) (h:n<=l.length):(vecC zaj l).take (n*23)=vecC zaj (l.take n):=by
  conv=>lhs;rw [<- je n l,zaw]
  rw [ke (by rw [zby zdp,il];omega),io (by rw [zby zdp,il];omega)]
theorem z64 (l:List Rule) (n:Nat) (h:n<=l.length):(vecC zaj l).drop (n*23)=vecC zaj (l.drop n):=by
  conv=>lhs;rw [<- je n l,zaw]
  rw [show n*23=(vecC zaj (l.take n)).length from by rw [zby zdp,il,Nat.min_eq_left h],List.drop_left]
theorem z09 {l:List Rule} {a b:Nat} (h:a<=b) (h2:b<=l.length):(delL l a b).length=a+(l.length - b):=by
  unfold delL;rw [f5,il,jk,Nat.min_eq_left (by omega)]
theorem yok (ax:Axs) {l:List Rule} {n a b:Nat} {z:Bool} (hl:l.length=n) (h:a<b) (h2:b<=n) (hn:n*201<=1000000000) :
    zm5 (EE ax) (stL [.cells z (n*23) (vecC zaj l)]) 28 (.arr 0 23 (b*23) (n - b) (n - b) (n*23)) (.arr 0 23 0 a n (n*23))=some (.arr 0 23 0 (a+(n - b)) n (n*23),stL [.cells z (n*23) (vecC zaj (delL l a b++l.drop (a+(n - b))))]):=by
  have hbox:(stL [.cells z (n*23) (vecC zaj l)]).box 0=.cells z (n*23) (vecC zaj l):=rfl
  have hs:tSrc (stL [.cells z (n*23) (vecC zaj l)]) 23 (.arr 0 23 (b*23) (n - b) (n - b) (n*23))=some (n - b,vecC zaj (l.drop b)):=by
    unfold tSrc;simp only [hbox];rw [show fy (n*23) (n*23)=true from jc _,show fy 23 23=true from rfl,zar.2 (show b*23+(n - b)*23<=n*23 by omega),gd,gd,cond_true,z64 _ _ (by omega),io (by rw [zby zdp,jk,hl];exact fp _)]
  unfold zm5;rw [el28 ax];simp only [hs,hbox];rw [zzd (by omega),show fy 23 0=false from rfl,show ib 1000 23=false from rfl,ze2 zi3,show fy (n*23) (n*23)=true from jc _,show fy 23 23=true from rfl];simp only [iz,Bool.or_self,cond_false];rw [zar.2 (show a+(n - b)<=n by omega),cond_true];by_cases hb:n - b=0
  . rw [hb,Nat.add_zero,jc,cond_true];have e:b=n:=by omega
    have:delL l a b++l.drop a=l:=by
      unfold delL;rw [e,<- hl,List.drop_length,h9,je]
    rw [this]
  . rw [show fy (n - b) 0=false from zje hb,cond_false,zar.2 (show 0+(a+(n - b))*23<=n*23 by omega),cond_true]
    have e:spl (vecC zaj l) (0+a*23) (vecC zaj (l.drop b))=vecC zaj (delL l a b++l.drop (a+(n - b))):=by
      unfold spl delL;rw [zaw,zaw,i8,z63 _ _ (by omega),zby zdp,jk,hl,<- jv,z64 _ _ (by omega)]
    rw [e,zei _ _ _ (by simp only [lzA]<;>omega)];simp only [scA]
def zR:List T:=fi .i64 0 :: ((zA 10).l.map (fi .i64)++((zA 10).l.map (fi .i64)++[fi .i64 0,T.nils]))
theorem yov:zR.length=23:=rfl
theorem yn8 (ax:Axs) {l:List Rule} {n a b:Nat} {z:Bool} (hl:l.length=n) (h:a<b) (h2:b<=n) :
    ztx (EE ax) (stL [.cells z (n*23) (vecC zaj (delL l a b++l.drop (a+(n - b))))]) 28 (.arr 0 23 ((a+(n - b))*23) (n - (a+(n - b))) (n - (a+(n - b))) (n*23))=some (.tup [],stL [.cells z (n*23) (vecC zaj (delL l a b)++rep (n - (a+(n - b))) zR)]):=by
  have hd:=z09 (l:=l) (Nat.le_of_lt h) (by omega);rw [hl] at hd;generalize hm:a+(n - b)=m at hd ⊢;unfold ztx;rw [el28 ax];simp only;rw [yb1];simp only;rw [show (stL [.cells z (n*23) (vecC zaj (delL l a b++l.drop m))]).box 0=.cells z (n*23) (vecC zaj (delL l a b++l.drop m)) from rfl];simp only;rw [show fy (n*23) (n*23)=true from jc _,zzk,show fy 23 23=true from rfl,zad.2 (show 0<(n - m)*23 by omega),zar.2 (show m*23+(n - m)*23<=n*23 by omega)];simp only [gd,cond_true]
  have e:spl (vecC zaj (delL l a b++l.drop m)) (m*23) (rep (n - m) zR)=vecC zaj (delL l a b)++rep (n - m) zR:=by
    unfold spl;rw [z63 _ _ (by rw [f5,hd];omega),ke (by omega),io (by omega),z5n,yov];rw [List.drop_of_length_le (by rw [zby zdp,f5,hd,jk,hl];omega),h9]
  rw [show (fi .i64 0 :: ((zA 10).l.map (fi .i64)++((zA 10).l.map (fi .i64)++[fi .i64 0,T.nils])))=zR from rfl,e,zei _ _ _ (by simp only [lzA]<;>omega)];simp only [scA]
theorem ycs (ax:Axs):∀ (own:List Nat) (ρ:Operand->T) (d:Option Tmp) (t ty:TypeId) (pos:String) (e:Array Go.Edge) (g:Option (Nat×Bool)) (S:TS) (x:Operand),zes Try.prog (EE ax) own ρ ⟨d,.call ⟨.builtin .clear,#[x],#[t]⟩,ty,pos,e,g⟩ S=ztx (EE ax) S t (ρ x):=fun own ρ d t ty pos e g S x=>yhn
theorem zxp (ax:Axs) (hx:NoAx ax) (k n:Nat) (l:List Rule) (i j:Int) (v:List Rule) (H:zne k n l i j=some v) :
    Call Try.prog (EE ax) [] 31 [.arr 0 23 0 n n (n*23),.int .i64 i,.int .i64 j] (stL [.cells false (n*23) (vecC zaj l)]) (tupT [zae v]) (stL [.gone]):=by
  unfold zne at H;obtain ⟨⟨hl,g0,g1,g2,g3⟩,H⟩:=isg H;obtain ⟨a,rfl⟩:=jy g0;obtain ⟨b,rfl⟩:=jy (show 0<=j by omega);cases H;rw [jp,jp];have hab:a<b:=by omega
  have hbn:b<=n:=by omega
  have hA:=yok ax (z:=false) hl hab hbn g3;have hC:=yn8 ax (z:=false) hl hab hbn;have hD:=z09 (l:=l) (Nat.le_of_lt hab) (by omega);rw [hl] at hD;obtain ⟨m,hm⟩:∃ m,m=a+(n - b):=⟨_,rfl⟩;rw [<- hm] at hA hC hD;refine enB [.tmp 6] 33 [0,1,2] (hx.no _ (by decide)) (fn31 ax) ?_;intro h hh;apply fh;refine rk [0,1,2] [] hh fun h hh=>?_;apply fh;refine rk [0,1,2] [] (f2 hh (bnd3 (n:=n) (Nat.le_of_lt hab) hbn)) fun h hh=>?_;repeat apply fh
  refine rk [0,1,2,16] [] hh fun h hh=>?_;refine cf (f2 hh (zAb (show ¬ (a:Int)=(b:Int) by omega))) ?_;refine sk ?_;apply fh;refine rk [0,1,2,7] [] hh fun h hh=>?_;apply fh;refine dg 6 [] [] [] [.cells false (n*23) (vecC zaj (delL l a b++l.drop m))] (fun h=>h 0=.arr 0 23 0 m n (n*23)/\h 7=.int .i64 (n:Int)) (f3 hh (bndH (n:=n) (a:=a) (by omega)) (f2 (bndL (n:=n) (a:=b) hbn) hA)) trivial trivial fun h hh=>?_;apply fh;refine rg [] [] [.cells false (n*23) (vecC zaj (delL l a b)++rep (n - m) zR)] (fun h=>h 0=.arr 0 23 0 m n (n*23)) (f3 hh (bndB (m:=m) (n:=n) (by omega)) (f2 hC (ycs ax))) trivial fun h hh=>?_;refine pk 0 (b:=0) (e:=23) (off:=0) (len:=m) (cap:=n) (M:=n*23) ((delL l a b).map zaj) (kq hh) (by rfl) (by omega) (by omega) ?_ ?_ ?_ (by omega) ?_
  . rw [gu,ke (by rw [zby zdp,hD];exact fp _),io (by rw [zby zdp,hD];exact fp _)];rfl
  . intro t ht;obtain ⟨x,_,rfl⟩:=jt.1 ht;exact zdp x
  . rw [ft,hD]
  rw [zei _ _ _ (by simp only [lzA]<;>omega)];simp only [scA];refine gk [0] hh fun h hh=>?_;apply fh;refine rk [6] [] hh fun h hh=>?_;exact rtB hh
theorem yeu (r:Rule) (m:Pat):spl (zaj r).cells 1 (m.mask.l.map (fi .i64)++(m.bits.l.map (fi .i64)))=(zaj { r with mat:=m }).cells:=by
  have e1:(zaj r).cells=fi .i64 r.prio :: (r.mat.mask.l.map (fi .i64)++(r.mat.bits.l.map (fi .i64)++[fi .i64 r.step,za6 r.outs])):=rfl;have e2:(zaj { r with mat:=m }).cells=fi .i64 r.prio :: (m.mask.l.map (fi .i64)++(m.bits.l.map (fi .i64)++[fi .i64 r.step,za6 r.outs])):=rfl;rw [e1,e2];have h1:(m.mask.l.map (fi .i64)++m.bits.l.map (fi .i64)).length=20:=by simp [m.mask.h,m.bits.h]
  have h2:(r.mat.mask.l.map (fi .i64)++r.mat.bits.l.map (fi .i64)).length=20:=by simp [r.mat.mask.h,r.mat.bits.h]
  unfold spl;rw [h1,List.take_succ_cons,List.take_zero,show 1+20=20+1 from rfl,k9,<- gq (r.mat.mask.l.map (fi .i64)),<- h2,List.drop_left];simp
theorem ym6 {a b c xs:List T} {n j:Nat} (ha:a.length=n) (hj:j+xs.length<=b.length):spl (a++(b++c)) (n+j) xs=a++(spl b j xs++c):=by
  subst ha;unfold spl;rw [List.take_length_add_append,Nat.add_assoc,List.drop_length_add_append,ke (by omega),List.drop_append_of_le_length (by omega)];simp only [gq]
theorem yc5 {l:List Rule} {i:Nat} (m:Pat) (h:i<l.length):spl (vecC zaj l) (i*23+1) (m.mask.l.map (fi .i64)++(m.bits.l.map (fi .i64)))=vecC zaj (l.set i { l.getD i default with mat:=m }):=by
  rw [<- zzr zaj 23 { l.getD i default with mat:=m } zdp h];obtain ⟨h1,h2⟩:=zn9 zaj 23 zdp h;have hc:=zdp (l.getD i default);have hn:=zdp { l.getD i default with mat:=m };have hm:(m.mask.l.map (fi .i64)++m.bits.l.map (fi .i64)).length=20:=by simp [m.mask.h,m.bits.h]
  rw [h1,ycx h2 (by rw [hn,hc]),ym6 h2 (by omega),yeu]
def zhd (k:Nat) (t:List Rule) (m_:Merg):Option (List Rule×Int):=(((if m_.i<0 then some true else some (decide ((t.length:Int)<=m_.i))):Option Bool).bind fun s_=>(if s_=true then some ([],1) else (if m_.kind=1 then (if m_.k≠0 then some ([],1) else (if t.length*201<=1000000000 then ((zne k t.length t m_.i (fj.wrap (m_.i+1))).bind fun eh=>some (eh,0)) else none)) else (((if m_.kind=2 then some true else some (decide (m_.kind=3))):Option Bool).bind fun s_2=>(if s_2=true then (((if m_.k<=m_.i then some true else (if (t.length:Int)<=m_.k then some true else (if 0<=m_.i/\m_.i<(t.length:Int) then (if 0<=m_.k/\m_.k<(t.length:Int) then ((ziw k (gx t m_.i) (gx t m_.k)).bind fun am=>some (!am)) else none) else none))):Option Bool).bind fun s_3=>(if s_3=true then some ([],1) else (if 0<=m_.i/\m_.i<(t.length:Int) then (if 0<=m_.k/\m_.k<(t.length:Int) then ((zik k ((gx t m_.i).mat) ((gx t m_.k).mat)).bind fun ab=>(if ab.2=true then (if t.length*201<=1000000000 then (if m_.i.toNat<t.length then (if m_.k.toNat<(t.set m_.i.toNat ({ t.getD m_.i.toNat default with mat:=ab.1 })).length then (((if m_.kind=3 then some m_.i else some m_.k):Option Int).bind fun s_4=>((zne k t.length ((t.set m_.i.toNat ({ t.getD m_.i.toNat default with mat:=ab.1 })).set m_.k.toNat ({ (t.set m_.i.toNat ({ t.getD m_.i.toNat default with mat:=ab.1 })).getD m_.k.toNat default with mat:=ab.1 })) s_4 (fj.wrap (s_4+1))).bind fun cy=>some (cy,0))) else none) else none) else none) else some ([],1))) else none) else none))) else some ([],1))))))
theorem zkx (ax:Axs) (hx:NoAx ax) (k:Nat) (t:List Rule) (m_:Merg) (v:List Rule×Int) (H:zhd k t m_=some v):Pure Try.prog (EE ax) [] 10 [zae t,zin m_] (tupT [zae v.1,.int .i64 v.2]):=by
 rw [zhd] at H;refine enN [.tmp 4,.tmp 5] 108 [0,1] (hx.no _ (by decide)) (fn10 ax) ?_;intro h hh;apply fh;refine rk [0,3] [] hh fun h hh=>?_;refine zk 3 0 3 true [.int .i64 m_.kind,.int .i64 m_.i,.int .i64 m_.k] [0,3] hh fun h hh=>?_;obtain ⟨s_,H1,H⟩:=zab H;repeat apply fh
 refine cu [0,3,19] 1 (fun h bs=>(h 0=zae t/\h 3=.cp [.int .i64 m_.kind,.int .i64 m_.i,.int .i64 m_.k]/\h 19=.bool s_)/\bs=[.gone]) ?_ ?_
 .skip;rcases isp H1 with ⟨c1,H1⟩|⟨c1,H1⟩;rotate_left
  .skip;refine rk [0,3,19] [] (f3 hh (zAb c1) (zqu ax)) fun h hh=>?_;cases H1;exact ce hh ⟨kq hh,rfl⟩
  refine rk [0,3,19] [] (f3 hh (zAa c1) (zqu ax)) fun h hh=>?_;cases H1;exact ce hh ⟨kq hh,rfl⟩
 clear hh h;rintro h bs ⟨hh,rfl⟩;rcases isb H with ⟨c2,H⟩|⟨c2,H⟩;rotate_left
 .skip;refine cf (f2 hh c2) ?_;refine sk ?_;repeat apply fh
  refine rk [0,3,21] [] (f3 hh c2 (yli ax)) fun h hh=>?_;apply gr;apply fh;refine rk [0,3,21,22] [] (f2 hh c2) fun h hh=>?_;rcases isp H with ⟨c3,H⟩|⟨c3,H⟩;rotate_left
  .skip;refine cf (f2 hh (zAb c3)) ?_;repeat apply fh
   refine rk [0,3,21,35] [] (f2 hh c2) fun h hh=>?_;obtain ⟨s_2,H1,H⟩:=zab H;refine cu [0,3,35] 1 (fun h bs=>(h 0=zae t/\h 3=.cp [.int .i64 m_.kind,.int .i64 m_.i,.int .i64 m_.k]/\h 35=.bool s_2)/\bs=[.gone]) ?_ ?_
   .skip;rcases isp H1 with ⟨c7,H1⟩|⟨c7,H1⟩;rotate_left
    .skip;refine cf (f2 hh (zAb c7)) ?_;refine rk [0,3,35] [] (f2 hh c2) fun h hh=>?_;cases H1;exact ce hh ⟨kq hh,rfl⟩
    refine ct (f2 hh (zAa c7)) ?_;refine sk ?_;cases H1;exact ce hh ⟨kq (f2 hh (zAa c7)),rfl⟩
   clear hh h;rintro h bs ⟨hh,rfl⟩;rcases isb H with ⟨c8,H⟩|⟨c8,H⟩;rotate_left
   .skip;refine cf (f2 hh c8) ?_;refine sk ?_;apply fh;refine rk [4,5] [] (f3 hh c2 c8) fun h hh=>?_;refine nk 4 23 [4,5] hh fun h hh=>?_;cases H;exact rt hh
   refine ct (f2 hh c8) ?_;obtain ⟨s_3,H1,H⟩:=zab H;repeat apply fh
   refine cu [0,3,63] 1 (fun h bs=>(h 0=zae t/\h 3=.cp [.int .i64 m_.kind,.int .i64 m_.i,.int .i64 m_.k]/\h 63=.bool s_3)/\bs=[.gone]) ?_ ?_
   .skip;rcases isp H1 with ⟨c9,H1⟩|⟨c9,H1⟩;rotate_left
    .skip;rcases isp H1 with ⟨c10,H1⟩|⟨c10,H1⟩;rotate_left
     .skip;obtain ⟨g11,H1⟩:=isg H1;obtain ⟨g12,H1⟩:=isg H1;obtain ⟨am,e13,H1⟩:=zab H1;refine dk 23 [0,3,63] [] [] [(.bool am,stL [.gone])] (f3 hh (zAb c9) (f3 (zAb c10) c2 (f3 c8 (zag g11) (f3 (zag g12) (zqu ax) (zvq ax))))) trivial ?_ ?_
      .exact ⟨ge (ja (zt3 ax hx k (gx t m_.i) (gx t m_.k) am e13 ) (by first|rfl|simp only [c2,c8])),trivial⟩
      clear hh h;intro h hh;cases H1;exact ce hh ⟨kq hh,rfl⟩
     refine dk 23 [0,3,63] [] [] [] (f3 hh (zAb c9) (f3 (zAa c10) c2 (f3 c8 (zqu ax) (zvq ax)))) trivial trivial fun h hh=>?_;cases H1;exact ce hh ⟨kq hh,rfl⟩
    refine dk 23 [0,3,63] [] [] [] (f3 hh (zAa c9) (f3 c2 c8 (f2 (zqu ax) (zvq ax)))) trivial trivial fun h hh=>?_;cases H1;exact ce hh ⟨kq hh,rfl⟩
   clear hh h;rintro h bs ⟨hh,rfl⟩;rcases isb H with ⟨c14,H⟩|⟨c14,H⟩;rotate_left
   .skip;refine cf (f2 hh c14) ?_;refine sk ?_;obtain ⟨g15,H⟩:=isg H;obtain ⟨g16,H⟩:=isg H;obtain ⟨ab,e17,H⟩:=zab H;apply fh;refine dk 12 [0,3,6,7] [] [] [(.tup [ePat ab.1,.bool ab.2],stL [.gone])] (f3 hh c2 (f3 c8 c14 (f3 (zag g15) (zag g16) (f2 (zqu ax) (zvq ax))))) trivial ?_ ?_
    .exact ⟨ge (ja (zp2 ax hx k ((gx t m_.i).mat) ((gx t m_.k).mat) ab e17 ) (by first|rfl|simp only [c2,c8,c14])),trivial⟩
    clear hh h;intro h hh;refine zk 6 1 20 true (ab.1.mask.l.map (fi .i64)++(ab.1.bits.l.map (fi .i64))) [0,3,6,7] hh fun h hh=>?_;repeat apply fh
    refine rk [0,3,6,81] [] (f3 hh c2 (f2 c8 c14)) fun h hh=>?_;rcases isb H with ⟨c18,H⟩|⟨c18,H⟩;rotate_left
    .skip;refine ct (f2 hh c18) ?_;apply fh;refine rk [4,5] [] (f3 hh c2 (f3 c8 c14 c18)) fun h hh=>?_;refine nk 4 23 [4,5] hh fun h hh=>?_;cases H;exact rt hh
    refine cf (f2 hh c18) ?_;refine sk ?_;obtain ⟨g19,H⟩:=isg H;apply fh;refine rkc [3,6,8] [] [(.arr 2 23 0 t.length t.length (t.length*23),stL [.gone,.gone,.cells false (t.length*23) (vecC zaj t)])] (f3 hh c2 (f3 c8 c14 c18)) ?_ ?_
    .exact ⟨(by have q:=sv (zlr ax hx t g19) (by simp only [zbn,idsA,idsB,gd]) (by simp only [zbn,idsA,idsB,gd]) [.gone,.gone];(try simp only [c2,c8,c14,c18] at q);exact q),trivial⟩
    clear hh h;intro h hh;obtain ⟨g20,H⟩:=isg H;obtain ⟨g21,H⟩:=isg H;apply fh;refine ds 10 [(6,none),(88,none),(93,some 2)] [3,8] [] [] [] (f3 hh c2 (f3 c8 c14 (f3 c18 (yc5 ab.1 g20) (f3 (yc5 ab.1 g21) (zqu ax) (zvq ax))))) trivial trivial fun h hh=>?_;apply fh;refine rk [3,8,9] [] (f3 hh c2 (f3 c8 c14 (f2 c18 (zvq ax)))) fun h hh=>?_;repeat apply fh
    refine rk [3,8,9,100] [] (f3 hh c2 (f3 c8 c14 (f2 c18 (yli ax)))) fun h hh=>?_;obtain ⟨s_4,H1,H⟩:=zab H;refine cu [8,9] 3 (fun h bs=>(h 8=.arr 2 23 0 t.length t.length (t.length*23)/\h 9=.int .i64 s_4)/\bs=[.gone,.gone,.cells false (t.length*23) (vecC zaj ((t.set m_.i.toNat ({ t.getD m_.i.toNat default with mat:=ab.1 })).set m_.k.toNat ({ (t.set m_.i.toNat ({ t.getD m_.i.toNat default with mat:=ab.1 })).getD m_.k.toNat default with mat:=ab.1 })))]) ?_ ?_
    .skip;rcases isp H1 with ⟨c22,H1⟩|⟨c22,H1⟩;rotate_left
     .skip;refine cf (f2 hh (zAb c22)) ?_;refine sk ?_;cases H1;exact ce hh ⟨kq hh,rfl⟩
     refine ct (f2 hh (zAa c22)) ?_;refine rk [8,9] [] (f3 hh c2 (f3 c8 c14 (f2 c18 (zqu ax)))) fun h hh=>?_;cases H1;exact ce hh ⟨kq hh,rfl⟩
    clear hh h;rintro h bs ⟨hh,rfl⟩;obtain ⟨cy,e23,H⟩:=zab H;apply fh;refine rkc [4,5] [] [(zae cy,stL [.gone,.gone,.gone])] (f3 hh c2 (f3 c8 c14 c18)) ?_ ?_
    .exact ⟨ca [2] (zxp ax hx k t.length ((t.set m_.i.toNat ({ t.getD m_.i.toNat default with mat:=ab.1 })).set m_.k.toNat ({ (t.set m_.i.toNat ({ t.getD m_.i.toNat default with mat:=ab.1 })).getD m_.k.toNat default with mat:=ab.1 })) s_4 (fj.wrap (s_4+1)) cy e23),trivial⟩
    clear hh h;intro h hh;cases H;exact rt hh
   refine ct (f2 hh c14) ?_;apply fh;refine rk [4,5] [] (f3 hh c2 (f2 c8 c14)) fun h hh=>?_;refine nk 4 23 [4,5] hh fun h hh=>?_;cases H;exact rt hh
  refine ct (f2 hh (zAa c3)) ?_;repeat apply fh
  refine rk [0,3,26] [] (f3 hh c2 (zvq ax)) fun h hh=>?_;rcases isp H with ⟨c4,H⟩|⟨c4,H⟩;rotate_left
  .skip;refine cf (f2 hh (zAb c4)) ?_;refine sk ?_;obtain ⟨g5,H⟩:=isg H;obtain ⟨eh,e6,H⟩:=zab H;apply fh;refine dc 1 [3] [4,5] [] [] [(.arr 1 23 0 t.length t.length (t.length*23),stL [.gone,.cells false (t.length*23) (vecC zaj t)]),(zae eh,stL [.gone,.gone])] (f3 hh c2 (zqu ax)) trivial ?_ ?_
   .exact ⟨(by have q:=sv (zlr ax hx t g5) (by simp only [zbn,idsA,idsB,gd]) (by simp only [zbn,idsA,idsB,gd]) [.gone];(try simp only [c2] at q);exact q),ca [1] (zxp ax hx k t.length t m_.i (fj.wrap (m_.i+1)) eh e6),trivial⟩
   clear hh h;intro h hh;cases H;exact rt hh
  refine ct (f2 hh (zAa c4)) ?_;apply fh;refine rk [4,5] [] (f2 hh c2) fun h hh=>?_;refine nk 4 23 [4,5] hh fun h hh=>?_;cases H;exact rt hh
 refine ct (f2 hh c2) ?_;apply fh;refine rk [4,5] [] (f2 hh c2) fun h hh=>?_;refine nk 4 23 [4,5] hh fun h hh=>?_;cases H;exact rt hh
def zd6 (k:Nat) (t:List Rule) (m_:Merg):Option (List Rule×Int):=((zhd k t m_).bind fun ab=>(if ab.2≠0 then some ([],ab.2) else (if 0<=m_.i/\m_.i<(t.length:Int) then (((if m_.kind≠1 then (if 0<=m_.k/\m_.k<(t.length:Int) then ((zik k ((gx t m_.i).mat) ((gx t m_.k).mat)).bind fun ba=>some (ba.1.mask,ba.1.bits)) else none) else some (((gx t m_.i).mat).mask,((gx t m_.i).mat).bits)):Option (Ar 10×Ar 10)).bind fun s_=>((zj6 k t ab.1 (⟨s_.1,s_.2⟩:Pat)).bind fun ei=>(if ei=true then some (ab.1,0) else some ([],7)))) else none)))
theorem zf8 (ax:Axs) (hx:NoAx ax) (k:Nat) (t:List Rule) (m_:Merg) (v:List Rule×Int) (H:zd6 k t m_=some v):Pure Try.prog (EE ax) [] 12 [zae t,zin m_] (tupT [zae v.1,.int .i64 v.2]):=by
 rw [zd6] at H;refine enN [.tmp 4,.tmp 5] 44 [0,1] (hx.no _ (by decide)) (fn12 ax) ?_;intro h hh;apply fh;refine rk [0,3] [] hh fun h hh=>?_;obtain ⟨ab,e1,H⟩:=zab H;apply fh;refine rkp [0,3,6,7] [] [.tup [zae ab.1,.int .i64 ab.2]] hh ?_ ?_
 .exact ⟨ge ((zkx ax hx k t m_ ab e1 ).call _),trivial⟩
 clear hh h;intro h hh;repeat apply fh
 refine rk [0,3,6,7,16] [] hh fun h hh=>?_;rcases isp H with ⟨c2,H⟩|⟨c2,H⟩;rotate_left
 .skip;refine cf (f2 hh (zAb c2)) ?_;refine sk ?_;obtain ⟨g3,H⟩:=isg H;apply fh;refine rk [0,3,6,8] [] (f2 hh (zag g3)) fun h hh=>?_;repeat apply fh
  refine rk [0,3,6,8,26] [] hh fun h hh=>?_;obtain ⟨s_,H1,H⟩:=zab H;refine cu [0,6,8] 2 (fun h bs=>(h 0=zae t/\h 6=zae ab.1/\h 8=.ptr 1 0 20)/\bs=[.cells true 3 [.int .i64 m_.kind,.int .i64 m_.i,.int .i64 m_.k],.cells true 20 (s_.1.l.map (fi .i64)++(s_.2.l.map (fi .i64)))]) ?_ ?_
  .skip;rcases isp H1 with ⟨c4,H1⟩|⟨c4,H1⟩;rotate_left
   .skip;refine cf (f2 hh (zAb c4)) ?_;refine sk ?_;cases H1;exact ce hh ⟨kq hh,rfl⟩
   refine ct (f2 hh (zAa c4)) ?_;obtain ⟨g5,H1⟩:=isg H1;obtain ⟨ba,e6,H1⟩:=zab H1;refine dk 7 [0,6,8] [] [] [(.tup [ePat ba.1,.bool ba.2],stL [.cells true 3 [.int .i64 m_.kind,.int .i64 m_.i,.int .i64 m_.k],.cells true 20 ((((gx t m_.i).mat).mask).l.map (fi .i64)++((((gx t m_.i).mat).bits).l.map (fi .i64)))])] (f2 hh (zag g5)) trivial ?_ ?_
   .exact ⟨ge ((zp2 ax hx k ((gx t m_.i).mat) ((gx t m_.k).mat) ba e6 ).call _),trivial⟩
   clear hh h;intro h hh;cases H1;exact ce hh ⟨kq hh,rfl⟩
  clear hh h;rintro h bs ⟨hh,rfl⟩;obtain ⟨ei,e7,H⟩:=zab H;repeat apply fh
  refine rkp [6,42] [] [.bool ei] hh ?_ ?_
  .exact ⟨ge ((zwl ax hx k t ab.1 (⟨s_.1,s_.2⟩:Pat) ei e7 ).call _),trivial⟩
  clear hh h;intro h hh;rcases isb H with ⟨c8,H⟩|⟨c8,H⟩;rotate_left
  .skip;refine ct (f2 hh c8) ?_;apply fh;refine rk [4,5] [] (f2 hh c8) fun h hh=>?_;refine nk 4 23 [4,5] hh fun h hh=>?_;cases H;exact rt hh
  refine cf (f2 hh c8) ?_;refine sk ?_;apply fh;refine rk [4,5] [] (f2 hh c8) fun h hh=>?_;cases H;exact rt hh
 refine ct (f2 hh (zAa c2)) ?_;apply fh;refine rk [4,5] [] hh fun h hh=>?_;refine nk 4 23 [4,5] hh fun h hh=>?_;cases H;exact rt hh
def zf7 (k:Nat) (l:List Merg):Nat->(List Rule)->Int->Option (Int ⊕ (List Rule))
 |0,_,_=>none
 |m+1,t2,i=>(if i<(l.length:Int) then (if 0<=i/\i<(l.length:Int) then ((zd6 k t2 (gx l i)).bind fun ah=>(if ah.2≠0 then some (.inl ah.2) else zf7 k l m ah.1 (fj.wrap (i+1)))) else none) else some (.inr t2))
def zkl (k:Nat) (t:List Rule) (u:List Rule) (l:List Merg):Option Int:=((zf7 k l k t 0:Option (Int ⊕ (List Rule))).bind fun o=>kx (fun r=>some r) (fun s_=>((zo6 k s_ u).bind fun bu=>(if bu=true then some 0 else some 7))) o)
theorem zf6 (ax:Axs) (hx:NoAx ax) (k:Nat) (t:List Rule) (u:List Rule) (l:List Merg) (v:Int) (H:zkl k t u l=some v):Pure Try.prog (EE ax) [] 16 [zae t,zae u,zow l] (.int .i64 v):=by
 rw [zkl] at H;refine en [.tmp 6] 32 [0,1,2] (hx.no _ (by decide)) (fn16 ax) ?_;intro h hh;apply fh;refine rk [0,1,2] [] hh fun h hh=>?_;repeat apply fh
 refine rk [0,1,11,12,13] [] hh fun h hh=>?_;obtain ⟨o,H1,H⟩:=zab H;refine cu [0,1] 0 (fun h bs=>∃ s_:List Rule,o=.inr s_/\(h 0=zae s_/\h 1=zae u)/\bs=[]) ?_ ?_
 .skip;apply gr;refine jo [0,1,11,12,13] (fun m h bs=>∃ (t2:List Rule) (i:Int),zf7 k l m t2 i=some o/\(h 0=zae t2/\h 1=zae u/\h 11=zow l/\h 12=.int .i64 (l.length:Int)/\h 13=.int .i64 i)/\bs=[]) ?_ k _ _ ?_;rotate_left
  .exact ⟨t,0,H1,kq hh,rfl⟩
  clear hh h H1;rintro m h bs ⟨t2,i,H1,hh,rfl⟩;rcases m with _|m
  .rw [zf7] at H1;cases H1
  rw [zf7] at H1;apply fh;refine rk [0,1,11,12,13,14] [] hh fun h hh=>?_;rcases isp H1 with ⟨c1,H1⟩|⟨c1,H1⟩;rotate_left
  .skip;apply fh;refine cf (f2 hh (zAb c1)) ?_;refine xk ?_;cases H1;exact ce hh ⟨_,rfl,kq hh,rfl⟩
  apply fh;refine ct (f2 hh (zAa c1)) ?_;refine sk ?_;apply fh;apply gr;obtain ⟨g2,H1⟩:=isg H1;apply fh;refine rk [0,1,8,11,12,13] [] (f2 hh (zag g2)) fun h hh=>?_;obtain ⟨ah,e3,H1⟩:=zab H1;apply fh;refine rkp [1,9,10,11,12,13] [] [.tup [zae ah.1,.int .i64 ah.2]] hh ?_ ?_
  .exact ⟨ge ((zf8 ax hx k t2 (gx l i) ah e3 ).call _),trivial⟩
  clear hh h;intro h hh;repeat apply fh
  refine rk [1,9,10,11,12,13,24] [] hh fun h hh=>?_;rcases isp H1 with ⟨c4,H1⟩|⟨c4,H1⟩;rotate_left
  .skip;refine cf (f2 hh (zAb c4)) ?_;refine sk ?_;refine rk [0,1,11,12,13] [] hh fun h hh=>?_;refine rk [0,1,11,12,13] [] hh fun h hh=>?_;exact rd m hh ⟨ah.1,(fj.wrap (i+1)),H1,kq hh,rfl⟩
  refine ct (f2 hh (zAa c4)) ?_;apply fh;refine rk [6] [] hh fun h hh=>?_;cases H1;obtain rfl:=sinl H;exact rt hh
 clear hh h;rintro h bs ⟨s_,rfl,hh,rfl⟩;replace H:=sinr H;obtain ⟨bu,e5,H⟩:=zab H;repeat apply fh
 refine rkp [31] [] [.bool bu] hh ?_ ?_
 .exact ⟨ge ((zwi ax hx k s_ u bu e5 ).call _),trivial⟩
 clear hh h;intro h hh;rcases isb H with ⟨c6,H⟩|⟨c6,H⟩;rotate_left
 .skip;refine ct (f2 hh c6) ?_;apply fh;refine rk [6] [] (f2 hh c6) fun h hh=>?_;cases H;exact rt hh
 refine cf (f2 hh c6) ?_;refine sk ?_;apply fh;refine rk [6] [] (f2 hh c6) fun h hh=>?_;cases H;exact rt hh
end Go.Proofs.Ytkfnjbfnkpameaa
