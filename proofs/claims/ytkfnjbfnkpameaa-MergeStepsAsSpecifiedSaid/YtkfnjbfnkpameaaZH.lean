/- Part 8 of the proof of MergeStepsAsSpecified (several texts in one; no further condition). -/
import Derived.Test.YtkfnjbfnkpameaaZG
set_option linter.unusedSimpArgs false
set_option linter.unusedVariables false
set_option linter.unusedSectionVars false
namespace Go.Proofs.Ytkfnjbfnkpameaa
set_option maxHeartbeats 8000000
open _root_.And renaming intro->fd
open _root_.Bool renaming and_self->gc,not_false->il,not_true->iv
open Go.Proofs.Ytkfnjbfnkpameaa.Call renaming fresh->sg
open _root_.Int renaming eq_ofNat_of_zero_le->jt,toNat_natCast->jk
open Go.IntKind renaming i64->fi,u64->f5
open _root_.List renaming append_assoc->gj,append_nil->gt,cons_append->gq,drop_succ_cons->kv,drop_zero->gp,flatten_cons->ii,flatten_nil->iy,getElem?_cons_succ->lh,getElem?_cons_zero->gz,length_append->fx,length_cons->gh,length_drop->jf,length_map->fq,length_nil->je,length_replicate->lf,length_take->ik,mem_map->jo,nil_append->gg,replicate->gb,set_cons_succ->lw,set_cons_zero->ld,take_append_drop->i9,take_append_of_le_length->jx,take_of_length_le->ij
open _root_.Nat renaming add_mul->jm,beq->fy,beq_refl->ja,ble->h9,le_refl->fp,one_mul->m8,reduceAdd->fw,reduceEqDiff->ft,reduceLT->iq,reduceLeDiff->jz,reduceMul->jg,reduceSub->iz,zero_add->i5
open _root_.Option renaming bind_some->ff
open Go.Proofs.Ytkfnjbfnkpameaa.Pure renaming clr->i7
open _root_.Sum renaming elim->ks
open Go.Proofs.Ytkfnjbfnkpameaa.T renaming int->fh,ren->qo,renL->oq
open Go.Proofs.Ytkfnjbfnkpameaa.TW renaming block->gl,freeze->pe,loopT->jj,seq->fg
open Go.Proofs.Ytkfnjbfnkpameaa.zal renaming call->gd
set_option maxRecDepth 100000
open Go Go.RowKit
def zlu (k:Nat) (p:Pat):Option (Ar 10):=some p.bits
theorem zvt (ax:Axs) (hx:NoAx ax) (k:Nat) (p:Pat) (v:Ar 10) (H:zlu k p=some v):Pure Try.prog (EE ax) [] 89 [ePat p] (.agg (v.l.map (fh .i64))):=by
 rw [zlu] at H;refine en [.cell 2 43] 5 [0] (hx.no _ (by decide)) (fn89 ax) ?_;intro h hh;apply fg;refine rk [1,2] [] hh fun h hh=>?_;apply fg;refine rk [2] [] hh fun h hh=>?_;cases H;exact rtc hh
def zg4 (k:Nat) (i:Int):Option Int:=(if 0<=i/\0<16 then (if (0:Int)<=(fi.wrap (15 - (i % 16))) then some (iShl .i64 1 (fi.wrap (15 - (i % 16)))) else none) else none)
theorem zkk (ax:Axs) (hx:NoAx ax) (k:Nat) (i:Int) (v:Int) (H:zg4 k i=some v):Pure Try.prog (EE ax) [] 95 [.int .i64 i] (.int .i64 v):=by
 rw [zg4] at H;refine en [.tmp 2] 7 [0] (hx.no _ (by decide)) (fn95 ax) ?_;intro h hh;apply fg;refine rk [0] [] hh fun h hh=>?_;obtain ⟨g1,H⟩:=isg H;obtain ⟨g2,H⟩:=isg H;apply fg;refine rk [2] [] (f2 hh (yn5 (k:=.i64) (k':=.i64) (a:=1) g2)) fun h hh=>?_;cases H;exact rt hh
def zij (k:Nat) (p:Pat) (i:Int) (b:Int):Option Pat:=(if 0<=i/\0<16 then (if (0:Int)<=(fi.wrap (i / 16))/\(fi.wrap (i / 16))<(10:Int) then ((zg4 k i).bind fun aq=>((zg4 k i).bind fun bd=>(if b=1 then ((zg4 k i).bind fun co=>some (⟨p.mask.set (fi.wrap (i / 16)) (iOr .i64 (gx p.mask.l (fi.wrap (i / 16))) aq),(p.bits.set (fi.wrap (i / 16)) (zhr .i64 (gx p.bits.l (fi.wrap (i / 16))) bd)).set (fi.wrap (i / 16)) (iOr .i64 (gx (p.bits.set (fi.wrap (i / 16)) (zhr .i64 (gx p.bits.l (fi.wrap (i / 16))) bd)).l (fi.wrap (i / 16))) co)⟩:Pat)) else some (⟨p.mask.set (fi.wrap (i / 16)) (iOr .i64 (gx p.mask.l (fi.wrap (i / 16))) aq),p.bits.set (fi.wrap (i / 16)) (zhr .i64 (gx p.bits.l (fi.wrap (i / 16))) bd)⟩:Pat)))) else none) else none)
theorem zri (ax:Axs) (hx:NoAx ax) (k:Nat) (p:Pat) (i:Int) (b:Int) (v:Pat) (H:zij k p i b=some v):Pure Try.prog (EE ax) [] 90 [ePat p,.int .i64 i,.int .i64 b] (ePat v):=by
 rw [zij] at H;refine en [.cell 6 56] 40 [0,1,2] (hx.no _ (by decide)) (fn90 ax) ?_;intro h hh;apply fg;refine rk [1,2,3,6] [] hh fun h hh=>?_;obtain ⟨g1,H⟩:=isg H;obtain ⟨g2,H⟩:=isg H;obtain ⟨aq,e3,H⟩:=zab H;apply fg;refine dk 7 [1,2,3,6] [.int .i64 aq] [] [] (f3 hh (zq8 (k:=.i64) (L:=(p.mask.l.map (fh .i64)++(p.bits.l.map (fh .i64)))) (r:=(p.bits.l.map (fh .i64))) p.mask g2) (ybn (k:=.i64) (L:=(p.mask.l.map (fh .i64)++(p.bits.l.map (fh .i64)))) (r:=(p.bits.l.map (fh .i64))) (L2:=((p.mask.set (fi.wrap (i / 16)) (iOr .i64 (gx p.mask.l (fi.wrap (i / 16))) aq)).l.map (fh .i64)++(p.bits.l.map (fh .i64)))) p.mask (iOr .i64 (gx p.mask.l (fi.wrap (i / 16))) aq) g2)) ?_ trivial ?_
 .exact ⟨(zkk ax hx k i aq e3 ).call _,trivial⟩
 clear hh h;intro h hh;obtain ⟨bd,e4,H⟩:=zab H;apply fg;refine dk 7 [1,2,3,6] [.int .i64 bd] [] [] (f3 hh (zok (k:=.i64) (off:=10) (L:=((p.mask.set (fi.wrap (i / 16)) (iOr .i64 (gx p.mask.l (fi.wrap (i / 16))) aq)).l.map (fh .i64)++(p.bits.l.map (fh .i64)))) (r:=[]) p.bits g2) (setAt (k:=.i64) (off:=10) (L:=((p.mask.set (fi.wrap (i / 16)) (iOr .i64 (gx p.mask.l (fi.wrap (i / 16))) aq)).l.map (fh .i64)++(p.bits.l.map (fh .i64)))) (r:=[]) (L2:=((p.mask.set (fi.wrap (i / 16)) (iOr .i64 (gx p.mask.l (fi.wrap (i / 16))) aq)).l.map (fh .i64)++((p.bits.set (fi.wrap (i / 16)) (zhr .i64 (gx p.bits.l (fi.wrap (i / 16))) bd)).l.map (fh .i64)))) (p:=((p.mask.set (fi.wrap (i / 16)) (iOr .i64 (gx p.mask.l (fi.wrap (i / 16))) aq)).l.map (fh .i64))) p.bits (zhr .i64 (gx p.bits.l (fi.wrap (i / 16))) bd) g2)) ?_ trivial ?_
 .exact ⟨(zkk ax hx k i bd e4 ).call _,trivial⟩
 clear hh h;intro h hh;repeat apply fg
 refine rk [1,3,6,28] [] hh fun h hh=>?_;rcases isp H with ⟨c5,H⟩|⟨c5,H⟩;rotate_left
 .skip;refine cf (f2 hh (zAb c5)) ?_;refine sk ?_;apply fg;refine rk [6] [] hh fun h hh=>?_;cases H;exact rtc hh
 refine ct (f2 hh (zAa c5)) ?_;obtain ⟨co,e6,H⟩:=zab H;refine dk 7 [3,6] [.int .i64 co] [] [] (f3 hh (zok (k:=.i64) (off:=10) (L:=((p.mask.set (fi.wrap (i / 16)) (iOr .i64 (gx p.mask.l (fi.wrap (i / 16))) aq)).l.map (fh .i64)++((p.bits.set (fi.wrap (i / 16)) (zhr .i64 (gx p.bits.l (fi.wrap (i / 16))) bd)).l.map (fh .i64)))) (r:=[]) (p.bits.set (fi.wrap (i / 16)) (zhr .i64 (gx p.bits.l (fi.wrap (i / 16))) bd)) g2) (setAt (k:=.i64) (off:=10) (L:=((p.mask.set (fi.wrap (i / 16)) (iOr .i64 (gx p.mask.l (fi.wrap (i / 16))) aq)).l.map (fh .i64)++((p.bits.set (fi.wrap (i / 16)) (zhr .i64 (gx p.bits.l (fi.wrap (i / 16))) bd)).l.map (fh .i64)))) (r:=[]) (L2:=((p.mask.set (fi.wrap (i / 16)) (iOr .i64 (gx p.mask.l (fi.wrap (i / 16))) aq)).l.map (fh .i64)++(((p.bits.set (fi.wrap (i / 16)) (zhr .i64 (gx p.bits.l (fi.wrap (i / 16))) bd)).set (fi.wrap (i / 16)) (iOr .i64 (gx (p.bits.set (fi.wrap (i / 16)) (zhr .i64 (gx p.bits.l (fi.wrap (i / 16))) bd)).l (fi.wrap (i / 16))) co)).l.map (fh .i64)))) (p:=((p.mask.set (fi.wrap (i / 16)) (iOr .i64 (gx p.mask.l (fi.wrap (i / 16))) aq)).l.map (fh .i64))) (p.bits.set (fi.wrap (i / 16)) (zhr .i64 (gx p.bits.l (fi.wrap (i / 16))) bd)) (iOr .i64 (gx (p.bits.set (fi.wrap (i / 16)) (zhr .i64 (gx p.bits.l (fi.wrap (i / 16))) bd)).l (fi.wrap (i / 16))) co) g2)) ?_ trivial ?_
 .exact ⟨(zkk ax hx k i co e6 ).call _,trivial⟩
 clear hh h;intro h hh;apply fg;refine rk [6] [] hh fun h hh=>?_;cases H;exact rtc hh
def za0 (k:Nat) (p:Pat) (l:List Pat):Nat->Int->Int->(List Pat)->Nat->Option ((Ar 10×Bool) ⊕ (Int×List Pat×Nat))
 |0,_,_,_,_=>none
 |m+1,at_,i,l2,n=>(if i<(l.length:Int) then (if 0<=i/\i<(l.length:Int) then ((zgb k p (gx l i)).bind fun bh=>(if bh=true then (if (n+1)*161<=1000000000 then (if natM ((gx l i).mask) then (if natM p.mask then (rngF (z9o ((gx l i).mask) p.mask) (if ((-1):Int)<0 then some (.inl ((zA 10),false)) else za0 k p l m (min at_ (-1)) (fi.wrap (i+1)) (l2++[(gx l i)]) (n+1)) (fun x=>(if (x:Int)<0 then some (.inl ((zA 10),false)) else za0 k p l m (min at_ (x:Int)) (fi.wrap (i+1)) (l2++[(gx l i)]) (n+1)))) else none) else none) else none) else za0 k p l m at_ (fi.wrap (i+1)) l2 n)) else none) else some (.inr (at_,l2,n)))
def zbv (k:Nat):Nat->Pat->(List Pat)->Option (Ar 10×Bool)
 |0,_,_=>none
 |m+1,p,l=>((za0 k p l k 160 0 [] 0:Option ((Ar 10×Bool) ⊕ (Int×List Pat×Nat))).bind fun o=>ks (fun r=>some r) (fun s_=>(if (s_.2.2:Int)=0 then ((zlu k p).bind fun dx=>some (dx,true)) else ((zij k p s_.1 0).bind fun da=>(if s_.2.1.length=s_.2.2 then ((zbv k m da s_.2.1).bind fun rb=>(if rb.2=true then some (rb.1,true) else ((zij k p s_.1 1).bind fun db=>((zbv k m db s_.2.1).bind fun rb2=>some (rb2.1,rb2.2))))) else none)))) o)
def zh8 (k:Nat) (p:Pat) (l:List Pat):Option (Ar 10×Bool):=zbv k k p l
theorem zmh (ax:Axs) (hx:NoAx ax) (k:Nat):∀ (m:Nat) (p:Pat) (l:List Pat) (v:Ar 10×Bool) (H:zbv k m p l=some v),Call Try.prog (EE ax) [] 87 [ePat p,lPat l,.ptr 0 0 1] (stL [.cells true 1 [.fn 87 [] [.ptr 0 0 1]]]) (tupT [.agg (v.1.l.map (fh .i64)),.bool v.2]) (stL [.cells true 1 [.fn 87 [] [.ptr 0 0 1]]]):=by
 intro m
 induction m with
 |zero=>intro p l v H;cases H
 |succ m ih =>
  intro p l v H;rw [zbv] at H;refine enB [.cell 5 43,.tmp 6] 65 [0,1,2] (hx.no _ (by decide)) (fn87 ax) ?_;intro h hh;apply fg;refine rk [1,2,3,5] [] hh fun h hh=>?_;apply fg;refine rk [1,2,3,5,7] [] hh fun h hh=>?_;refine vk 7 20 [1,2,3,5,7] hh fun h hh=>?_;apply fg;refine rk [1,2,3,5,7,8] [] hh fun h hh=>?_;repeat apply fg
  refine rk [2,3,5,7,8,15,16,17] [] hh fun h hh=>?_;obtain ⟨o,H1,H⟩:=zab H;refine cu [2,3,5,7,8] 4 (fun h bs=>∃ s_:Int×List Pat×Nat,o=.inr s_/\(h 2=.ptr 0 0 1/\h 3=.ptr 1 0 20/\h 5=.ptr 2 0 10/\h 7=.arr 3 20 0 s_.2.2 s_.2.2 (s_.2.2*20)/\h 8=.int .i64 s_.1)/\bs=[.cells true 1 [.fn 87 [] [.ptr 0 0 1]],.cells true 20 (p.mask.l.map (fh .i64)++(p.bits.l.map (fh .i64))),.cells true 10 ((zA 10).l.map (fh .i64)),.cells false (s_.2.2*20) (vecC ePat s_.2.1)]) ?_ ?_
  .skip;apply gl;refine jj [2,3,5,7,8,15,16,17] (fun m h bs=>∃ (at_:Int) (i:Int) (l2:List Pat) (n:Nat),za0 k p l m at_ i l2 n=some o/\(h 2=.ptr 0 0 1/\h 3=.ptr 1 0 20/\h 5=.ptr 2 0 10/\h 7=.arr 3 20 0 n n (n*20)/\h 8=.int .i64 at_/\h 15=lPat l/\h 16=.int .i64 (l.length:Int)/\h 17=.int .i64 i)/\bs=[.cells true 1 [.fn 87 [] [.ptr 0 0 1]],.cells true 20 (p.mask.l.map (fh .i64)++(p.bits.l.map (fh .i64))),.cells true 10 ((zA 10).l.map (fh .i64)),.cells false (n*20) (vecC ePat l2)]) ?_ k _ _ ?_;rotate_left
   .exact ⟨160,0,[],0,H1,kq hh,rfl⟩
   clear hh h H1;rintro m h bs ⟨at_,i,l2,n,H1,hh,rfl⟩;rcases m with _|m
   .rw [za0] at H1;cases H1
   rw [za0] at H1;apply fg;refine rk [2,3,5,7,8,15,16,17,18] [] hh fun h hh=>?_;rcases isp H1 with ⟨c1,H1⟩|⟨c1,H1⟩;rotate_left
   .skip;apply fg;refine cf (f2 hh (zAb c1)) ?_;refine xk ?_;cases H1;exact ce hh ⟨_,rfl,kq hh,rfl⟩
   apply fg;refine ct (f2 hh (zAa c1)) ?_;refine sk ?_;apply fg;apply gl;obtain ⟨g2,H1⟩:=isg H1;apply fg;refine rk [2,3,5,7,8,10,15,16,17] [] (f2 hh (zag g2)) fun h hh=>?_;obtain ⟨bh,e3,H1⟩:=zab H1;repeat apply fg
   refine rkp [2,3,5,7,8,10,15,16,17,24] [] [.bool bh] hh ?_ ?_
   .exact ⟨gd ((zl9 ax hx k p (gx l i) bh e3 ).call _),trivial⟩
   clear hh h;intro h hh;rcases isb H1 with ⟨c4,H1⟩|⟨c4,H1⟩;rotate_left
   .skip;refine ct (f2 hh c4) ?_;refine xk ?_;refine rk [2,3,5,7,8,15,16,17] [] (f2 hh c4) fun h hh=>?_;exact rd m hh ⟨at_,(fi.wrap (i+1)),l2,n,H1,kq hh,rfl⟩
   refine cf (f2 hh c4) ?_;refine sk ?_;obtain ⟨g5,H1⟩:=isg H1;apply fg;refine rg [] [] [.cells true 1 [.fn 87 [] [.ptr 0 0 1]],.cells true 20 (p.mask.l.map (fh .i64)++(p.bits.l.map (fh .i64))),.cells true 10 ((zA 10).l.map (fh .i64)),.cells false ((n+1)*20) (vecC ePat (l2++[(gx l i)])),.cells true 20 (((gx l i).mask).l.map (fh .i64)++(((gx l i).bits).l.map (fh .i64)))] (fun h=>h 2=.ptr 0 0 1/\h 3=.ptr 1 0 20/\h 5=.ptr 2 0 10/\h 7=.arr 3 20 0 (n+1) (n+1) ((n+1)*20)/\h 8=.int .i64 at_/\h 10=.ptr 4 0 20/\h 15=lPat l/\h 16=.int .i64 (l.length:Int)/\h 17=.int .i64 i) (f3 hh c4 ((show vecC ePat [(gx l i)]=(((gx l i).mask).l.map (fh .i64)++(((gx l i).bits).l.map (fh .i64))) from zdk.trans rfl))) trivial fun h hh=>?_;apply fg;refine rk [2,3,5,7,8,10,11,15,16,17] [] (f2 hh c4) fun h hh=>?_;repeat apply fg
   refine rkp [2,3,5,7,8,11,15,16,17,31] [] [.fn 93 [] [.cp (((gx l i).mask).l.map (fh .i64)++(((gx l i).bits).l.map (fh .i64))),.cp (p.mask.l.map (fh .i64)++(p.bits.l.map (fh .i64)))]] (f2 hh c4) ?_ ?_
   .exact ⟨gd (i7 (ycr ax hx (gx l i) p) (by first|rfl|simp only [c4])),trivial⟩
   clear hh h;intro h hh;apply gl;obtain ⟨g6,H1⟩:=isg H1;obtain ⟨g7,H1⟩:=isg H1;rcases isr H1 with ⟨c8,H1⟩|⟨x,l3,c8,H1⟩;rotate_left
   .skip;revert h;intro hO hhO;refine rx1 hhO g6 g7 c8 ?_;refine gk [2,3,5,7,8,11,15,16,17,32] hhO ?_;intro h hh;apply fg;refine rk [2,3,5,7,8,11,12,15,16,17] [] (f2 hh c4) fun h hh=>?_;apply gl;apply fg;refine rk [2,3,5,7,8,11,15,16,17] [] (f2 hh c4) fun h hh=>?_;refine xr ?_;clear hh h;revert hO;intro h hh;repeat apply fg
    refine rk [2,3,5,7,8,11,15,16,17,35] [] (f2 hh c4) fun h hh=>?_;rcases isp H1 with ⟨c9,H1⟩|⟨c9,H1⟩;rotate_left
    .skip;refine cf (f2 hh (zAb c9)) ?_;refine sk ?_;refine rk [2,3,5,7,8,15,16,17] [] (f2 hh c4) fun h hh=>?_;refine rk [2,3,5,7,8,15,16,17] [] (f2 hh c4) fun h hh=>?_;exact rd m hh ⟨(min at_ (x:Int)),(fi.wrap (i+1)),(l2++[(gx l i)]),(n+1),H1,kq hh,rfl⟩
    refine ct (f2 hh (zAa c9)) ?_;apply fg;refine rk [5,6] [] (f3 hh c4 (bz43 ax)) fun h hh=>?_;cases H1;obtain rfl:=sinl H;exact rtBc hh
   refine rx0 hh ?_ g6 g7 c8;repeat apply fg
   refine rk [2,3,5,7,8,11,15,16,17,35] [] (f2 hh c4) fun h hh=>?_;rcases isp H1 with ⟨c10,H1⟩|⟨c10,H1⟩;rotate_left
   .skip;refine cf (f2 hh (zAb c10)) ?_;refine sk ?_;refine rk [2,3,5,7,8,15,16,17] [] (f2 hh c4) fun h hh=>?_;refine rk [2,3,5,7,8,15,16,17] [] (f2 hh c4) fun h hh=>?_;exact rd m hh ⟨(min at_ (-1)),(fi.wrap (i+1)),(l2++[(gx l i)]),(n+1),H1,kq hh,rfl⟩
   refine ct (f2 hh (zAa c10)) ?_;apply fg;refine rk [5,6] [] (f3 hh c4 (bz43 ax)) fun h hh=>?_;cases H1;obtain rfl:=sinl H;exact rtBc hh
  clear hh h;rintro h bs ⟨s_,rfl,hh,rfl⟩;replace H:=sinr H;repeat apply fg
  refine rk [2,3,5,7,8,43] [] hh fun h hh=>?_;rcases isp H with ⟨c11,H⟩|⟨c11,H⟩;rotate_left
  .skip;refine cf (f2 hh (zAb c11)) ?_;refine sk ?_;obtain ⟨da,e13,H⟩:=zab H;obtain ⟨g14,H⟩:=isg H;repeat apply fg
   refine pe 7 (b:=3) (e:=20) (off:=0) (len:=s_.2.2) (cap:=s_.2.2) (M:=(s_.2.2*20)) (s_.2.1.map ePat) (kq hh) (by rfl) (by omega) (by omega) (by rw [gp];exact zc5 (e:=20) (fun x=>za1 x) g14) (fun t ht=>by obtain ⟨x,_,rfl⟩:=jo.1 ht;first|rfl|exact zf6 _|exact za1 _|exact zd0 _|exact zau _ | (rw [fq];rfl)) (by rw [fq]<;>exact g14) (by omega) ?_;rw [zec _ _ _ (by simp only [lzA]<;>omega)];simp only [scA];refine gk [2,3,5,7,8,43] hh fun h hh=>?_;obtain ⟨rb,e15,H⟩:=zab H;refine dk 4 [2,3,5,7,8,13,14] [ePat da] [] [(.tup [.agg (rb.1.l.map (fh .i64)),.bool rb.2],stL [.cells true 1 [.fn 87 [] [.ptr 0 0 1]],.cells true 20 (p.mask.l.map (fh .i64)++(p.bits.l.map (fh .i64))),.cells true 10 ((zA 10).l.map (fh .i64)),.gone])] (f2 hh ag74) ?_ ?_ ?_
   .exact ⟨(zri ax hx k p s_.1 0 da e13 ).call _,trivial⟩
   .exact ⟨ca [0] (ih da s_.2.1 rb e15),trivial⟩
   clear hh h;intro h hh;apply fg;refine rk [2,3,5,7,8,13,55] [] hh fun h hh=>?_;rcases isb H with ⟨c16,H⟩|⟨c16,H⟩;rotate_left
   .skip;refine cf (f2 hh c16) ?_;refine sk ?_;obtain ⟨db,e17,H⟩:=zab H;obtain ⟨rb2,e18,H⟩:=zab H;apply fg;refine dk 4 [5,6] [ePat db] [] [(.tup [.agg (rb2.1.l.map (fh .i64)),.bool rb2.2],stL [.cells true 1 [.fn 87 [] [.ptr 0 0 1]],.cells true 20 (p.mask.l.map (fh .i64)++(p.bits.l.map (fh .i64))),.cells true 10 ((zA 10).l.map (fh .i64)),.gone,.cells true 10 (rb.1.l.map (fh .i64))])] (f3 hh c16 ag74) ?_ ?_ ?_
    .exact ⟨i7 (zri ax hx k p s_.1 1 db e17 ) (by first|rfl|simp only [c16]),trivial⟩
    .exact ⟨ca [0] (ih db s_.2.1 rb2 e18),trivial⟩
    clear hh h;intro h hh;cases H;exact rtBc hh
   refine ct (f2 hh c16) ?_;apply fg;refine rk [5,6] [] (f2 hh c16) fun h hh=>?_;cases H;exact rtBc hh
  refine ct (f2 hh (zAa c11)) ?_;obtain ⟨dx,e12,H⟩:=zab H;apply fg;refine rkc [5,6] [] [(.agg (dx.l.map (fh .i64)),stL [.cells true 1 [.fn 87 [] [.ptr 0 0 1]],.cells true 20 (p.mask.l.map (fh .i64)++(p.bits.l.map (fh .i64))),.cells true 10 ((zA 10).l.map (fh .i64)),.cells false (s_.2.2*20) (vecC ePat s_.2.1)])] hh ?_ ?_
  .exact ⟨gd ((zvt ax hx k p dx e12 ).call _),trivial⟩
  clear hh h;intro h hh;cases H;exact rtBc hh
theorem zoe (ax:Axs) (hx:NoAx ax) (k:Nat) (p:Pat) (l:List Pat) (v:Ar 10×Bool) (H:zh8 k p l=some v):Call Try.prog (EE ax) [] 87 [ePat p,lPat l,.ptr 0 0 1] (stL [.cells true 1 [.fn 87 [] [.ptr 0 0 1]]]) (tupT [.agg (v.1.l.map (fh .i64)),.bool v.2]) (stL [.cells true 1 [.fn 87 [] [.ptr 0 0 1]]]):=zmh ax hx k k p l v H
def ze4 (k:Nat) (p:Pat) (l:List Pat):Option (Ar 10×Bool):=((zh8 k p l).bind fun rb=>some (rb.1,rb.2))
theorem zma (ax:Axs) (hx:NoAx ax) (k:Nat) (p:Pat) (l:List Pat) (v:Ar 10×Bool) (H:ze4 k p l=some v):Pure Try.prog (EE ax) [] 78 [ePat p,lPat l] (tupT [.agg (v.1.l.map (fh .i64)),.bool v.2]):=by
 rw [ze4] at H;refine enN [.cell 4 43,.tmp 5] 14 [0,1] (hx.no _ (by decide)) (fn78 ax) ?_;intro h hh;apply fg;refine rk [1,2,4] [] hh fun h hh=>?_;apply fg;refine rk [1,2,4,6] [] (f2 hh ag74) fun h hh=>?_;apply fg;refine rk [1,2,4,6] [] (f2 hh ag74) fun h hh=>?_;obtain ⟨rb,e1,H⟩:=zab H;apply fg;refine rkc [4,5] [] [(.tup [.agg (rb.1.l.map (fh .i64)),.bool rb.2],stL [.cells true 20 (p.mask.l.map (fh .i64)++(p.bits.l.map (fh .i64))),.cells true 10 ((zA 10).l.map (fh .i64)),.cells true 1 [.fn 87 [] [.ptr 2 0 1]]])] (f2 hh ag74) ?_ ?_
 .exact ⟨ca [2] (zoe ax hx k p l rb e1),trivial⟩
 clear hh h;intro h hh;cases H;exact rtc hh
def zgs (k:Nat) (x:Int):Option Bool:=some (decide (x≠x))
theorem zle (ax:Axs) (hx:NoAx ax) (k:Nat) (x:Int) (v:Bool) (H:zgs k x=some v):Pure Try.prog (EE ax) [] 96 [.int .i64 x] (.bool v):=by
 rw [zgs] at H;refine en [.tmp 2] 6 [0] (hx.no _ (by decide)) (fn96 ax) ?_;intro h hh;apply fg;refine rk [0] [] hh fun h hh=>?_;apply fg;refine rk [2] [] hh fun h hh=>?_;cases H;exact rt hh
def zfa (k:Nat) (x:Int) (y:Int):Option Int:=((zgs k x).bind fun be=>((zgs k y).bind fun de=>(if be=true then (if de=true then some 0 else some (-1)) else (if de=true then some 1 else (if x<y then some (-1) else (if y<x then some 1 else some 0))))))
theorem zos (ax:Axs) (hx:NoAx ax) (k:Nat) (x:Int) (y:Int) (v:Int) (H:zfa k x y=some v):Pure Try.prog (EE ax) [] 92 [.int .i64 x,.int .i64 y] (.int .i64 v):=by
 rw [zfa] at H;refine en [.tmp 4] 20 [0,1] (hx.no _ (by decide)) (fn92 ax) ?_;intro h hh;apply fg;refine rk [0,1] [] hh fun h hh=>?_;obtain ⟨be,e1,H⟩:=zab H;apply fg;refine rkp [0,1,5] [] [.bool be] hh ?_ ?_
 .exact ⟨gd ((zle ax hx k x be e1 ).call _),trivial⟩
 clear hh h;intro h hh;obtain ⟨de,e2,H⟩:=zab H;apply fg;refine rkp [0,1,5,6] [] [.bool de] hh ?_ ?_
 .exact ⟨gd ((zle ax hx k y de e2 ).call _),trivial⟩
 clear hh h;intro h hh;repeat apply fg
 refine rk [0,1,6,11] [] hh fun h hh=>?_;rcases isb H with ⟨c3,H⟩|⟨c3,H⟩;rotate_left
 .skip;refine cf (f2 hh c3) ?_;refine sk ?_;repeat apply fg
  refine rk [0,1,13] [] (f2 hh c3) fun h hh=>?_;rcases isb H with ⟨c5,H⟩|⟨c5,H⟩;rotate_left
  .skip;refine cf (f2 hh c5) ?_;refine sk ?_;repeat apply fg
   refine rk [0,1,16] [] (f3 hh c3 c5) fun h hh=>?_;rcases isp H with ⟨c6,H⟩|⟨c6,H⟩;rotate_left
   .skip;refine cf (f2 hh (zAb c6)) ?_;refine sk ?_;repeat apply fg
    refine rk [19] [] (f3 hh c3 c5) fun h hh=>?_;rcases isp H with ⟨c7,H⟩|⟨c7,H⟩;rotate_left
    .skip;refine cf (f2 hh (zAb c7)) ?_;refine sk ?_;apply fg;refine rk [4] [] (f3 hh c3 c5) fun h hh=>?_;cases H;exact rt hh
    refine ct (f2 hh (zAa c7)) ?_;apply fg;refine rk [4] [] (f3 hh c3 c5) fun h hh=>?_;cases H;exact rt hh
   refine ct (f2 hh (zAa c6)) ?_;apply fg;refine rk [4] [] (f3 hh c3 c5) fun h hh=>?_;cases H;exact rt hh
  refine ct (f2 hh c5) ?_;apply fg;refine rk [4] [] (f3 hh c3 c5) fun h hh=>?_;cases H;exact rt hh
 refine ct (f2 hh c3) ?_;repeat apply fg
 refine rk [12] [] (f2 hh c3) fun h hh=>?_;rcases isb H with ⟨c4,H⟩|⟨c4,H⟩;rotate_left
 .skip;refine cf (f2 hh c4) ?_;refine sk ?_;apply fg;refine rk [4] [] (f3 hh c3 c4) fun h hh=>?_;cases H;exact rt hh
 refine ct (f2 hh c4) ?_;apply fg;refine rk [4] [] (f3 hh c3 c4) fun h hh=>?_;cases H;exact rt hh
def zbd (k:Nat) (s1:List Int) (s2:List Int):Nat->Int->Option (Int ⊕ Unit)
 |0,_=>none
 |m+1,i=>(if i<(s1.length:Int) then (if 0<=i/\i<(s1.length:Int) then (if (s2.length:Int)<=i then some (.inl 1) else (if 0<=i/\i<(s2.length:Int) then ((zfa k (gx s1 i) (gx s2 i)).bind fun be=>(if be≠0 then some (.inl be) else zbd k s1 s2 m (fi.wrap (i+1)))) else none)) else none) else some (.inr ()))
def zeu (k:Nat) (s1:List Int) (s2:List Int):Option Int:=((zbd k s1 s2 k 0:Option (Int ⊕ Unit)).bind fun o=>ks (fun r=>some r) (fun s_=>(if (s1.length:Int)<(s2.length:Int) then some (-1) else some 0)) o)
theorem zmg (ax:Axs) (hx:NoAx ax) (k:Nat) (s1:List Int) (s2:List Int) (v:Int) (H:zeu k s1 s2=some v):Pure Try.prog (EE ax) [] 86 [ints s1,ints s2] (.int .i64 v):=by
 rw [zeu] at H;refine en [.tmp 4] 36 [0,1] (hx.no _ (by decide)) (fn86 ax) ?_;intro h hh;apply fg;refine rk [0,1] [] hh fun h hh=>?_;repeat apply fg
 refine rk [0,1,9,10,11] [] hh fun h hh=>?_;obtain ⟨o,H1,H⟩:=zab H;refine cu [0,1] 0 (fun h bs=>∃ s_:Unit,o=.inr s_/\(h 0=ints s1/\h 1=ints s2)/\bs=[]) ?_ ?_
 .skip;apply gl;refine jj [0,1,9,10,11] (fun m h bs=>∃ (i:Int),zbd k s1 s2 m i=some o/\(h 0=ints s1/\h 1=ints s2/\h 9=ints s1/\h 10=.int .i64 (s1.length:Int)/\h 11=.int .i64 i)/\bs=[]) ?_ k _ _ ?_;rotate_left
  .exact ⟨0,H1,kq hh,rfl⟩
  clear hh h H1;rintro m h bs ⟨i,H1,hh,rfl⟩;rcases m with _|m
  .rw [zbd] at H1;cases H1
  rw [zbd] at H1;apply fg;refine rk [0,1,9,10,11,12] [] hh fun h hh=>?_;rcases isp H1 with ⟨c1,H1⟩|⟨c1,H1⟩;rotate_left
  .skip;apply fg;refine cf (f2 hh (zAb c1)) ?_;refine xk ?_;cases H1;exact ce hh ⟨_,rfl,kq hh,rfl⟩
  apply fg;refine ct (f2 hh (zAa c1)) ?_;refine sk ?_;apply fg;apply gl;obtain ⟨g2,H1⟩:=isg H1;apply fg;refine rk [0,1,5,6,9,10,11] [] (f2 hh (zag g2)) fun h hh=>?_;repeat apply fg
  refine rk [0,1,5,6,9,10,11,19] [] hh fun h hh=>?_;rcases isp H1 with ⟨c3,H1⟩|⟨c3,H1⟩;rotate_left
  .skip;refine cf (f2 hh (zAb c3)) ?_;refine sk ?_;obtain ⟨g4,H1⟩:=isg H1;apply fg;refine rk [0,1,6,7,9,10,11] [] (f2 hh (zag g4)) fun h hh=>?_;obtain ⟨be,e5,H1⟩:=zab H1;apply fg;refine rkp [0,1,8,9,10,11] [] [.int .i64 be] hh ?_ ?_
   .exact ⟨gd ((zos ax hx k (gx s1 i) (gx s2 i) be e5 ).call _),trivial⟩
   clear hh h;intro h hh;apply fg;refine rk [0,1,8,9,10,11,28] [] hh fun h hh=>?_;rcases isp H1 with ⟨c6,H1⟩|⟨c6,H1⟩;rotate_left
   .skip;refine cf (f2 hh (zAb c6)) ?_;refine sk ?_;refine rk [0,1,9,10,11] [] hh fun h hh=>?_;exact rd m hh ⟨(fi.wrap (i+1)),H1,kq hh,rfl⟩
   refine ct (f2 hh (zAa c6)) ?_;apply fg;refine rk [4] [] hh fun h hh=>?_;cases H1;obtain rfl:=sinl H;exact rt hh
  refine ct (f2 hh (zAa c3)) ?_;apply fg;refine rk [4] [] hh fun h hh=>?_;cases H1;obtain rfl:=sinl H;exact rt hh
 clear hh h;rintro h bs ⟨s_,rfl,hh,rfl⟩;replace H:=sinr H;repeat apply fg
 refine rk [35] [] hh fun h hh=>?_;rcases isp H with ⟨c7,H⟩|⟨c7,H⟩;rotate_left
 .skip;refine cf (f2 hh (zAb c7)) ?_;refine sk ?_;apply fg;refine rk [4] [] hh fun h hh=>?_;cases H;exact rt hh
 refine ct (f2 hh (zAa c7)) ?_;apply fg;refine rk [4] [] hh fun h hh=>?_;cases H;exact rt hh
def zdy (k:Nat) (a:Ar 10) (b:Ar 10):Option Int:=((zeu k a.l b.l).bind fun be=>some be)
theorem zmv (ax:Axs) (hx:NoAx ax) (k:Nat) (a:Ar 10) (b:Ar 10) (v:Int) (H:zdy k a b=some v):Pure Try.prog (EE ax) [] 76 [.agg (a.l.map (fh .i64)),.agg (b.l.map (fh .i64))] (.int .i64 v):=by
 rw [zdy] at H;refine en [.tmp 4] 8 [0,1] (hx.no _ (by decide)) (fn76 ax) ?_;intro h hh;apply fg;refine rk [2,3] [] hh fun h hh=>?_;obtain ⟨be,e1,H⟩:=zab H;apply fg;refine dk 0 [4] [] [] [(.int .i64 be,stL [.cells true 10 (a.l.map (fh .i64)),.cells true 10 (b.l.map (fh .i64))])] hh trivial ?_ ?_
 .exact ⟨(by have q:=gd (Pure.lend (S:=stL [.cells true 10 (a.l.map (fh .i64)),.cells true 10 (b.l.map (fh .i64))]) (args:=[.arr 0 1 0 10 10 10,.arr 1 1 0 10 10 10]) (zmg ax hx k a.l b.l be e1 ) (fd (z7a (fun _=>rfl) (by rfl) (Ar.len a)) (fd (z7a (fun _=>rfl) (by rfl) (Ar.len b)) (trivial))) rfl);exact q),trivial⟩
 clear hh h;intro h hh;cases H;exact rt hh
def zbc (k:Nat) (t:List Rule) (k_:Int):Nat->Int->(List Pat)->Option (List Pat)
 |0,_,_=>none
 |m+1,i,l=>(if i<(k_.toNat:Int) then (if 0<=i/\i<(t.length:Int) then (if 0<=i/\i<(k_.toNat:Int) then (if i.toNat<l.length then zbc k t k_ m (fi.wrap (i+1)) (l.set i.toNat ((gx t i).mat)) else none) else none) else none) else some l)
def zdg (k:Nat) (t:List Rule) (k_:Int):Option (List Pat):=(if 0<=k_/\k_.toNat*161<=1000000000 then ((zbc k t k_ k 0 (gb k_.toNat (⟨zA 10,zA 10⟩:Pat)):Option (List Pat)).bind fun s_=>(if s_.length=k_.toNat then some s_ else none)) else none)
theorem zhy (ax:Axs) (hx:NoAx ax) (k:Nat) (t:List Rule) (k_:Int) (v:List Pat) (H:zdg k t k_=some v):Pure Try.prog (EE ax) [] 77 [zae t,.int .i64 k_] (lPat v):=by
 rw [zdg] at H;refine en [.tmp 4] 24 [0,1] (hx.no _ (by decide)) (fn77 ax) ?_;intro h hh;apply fg;refine rk [0,1] [] hh fun h hh=>?_;obtain ⟨g1,H⟩:=isg H;apply fg;refine rk [0,5] [] (f3 hh (z6h (k_.toNat)) ((show (vecC ePat (gb k_.toNat (⟨zA 10,zA 10⟩:Pat))).length=k_.toNat*20 from by rw [zbt (fun x=>za1 x),lf]))) fun h hh=>?_;repeat apply fg
 refine rk [0,5,10,11] [] hh fun h hh=>?_;obtain ⟨s_,H1,H⟩:=zab H;refine cu [5] 1 (fun h bs=>(h 5=.arr 0 20 0 k_.toNat k_.toNat (k_.toNat*20))/\bs=[.cells true (k_.toNat*20) (vecC ePat s_)]) ?_ ?_
 .skip;apply gl;refine jj [0,5,10,11] (fun m h bs=>∃ (i:Int) (l:List Pat),zbc k t k_ m i l=some s_/\(h 0=zae t/\h 5=.arr 0 20 0 k_.toNat k_.toNat (k_.toNat*20)/\h 10=.int .i64 (k_.toNat:Int)/\h 11=.int .i64 i)/\bs=[.cells true (k_.toNat*20) (vecC ePat l)]) ?_ k _ _ ?_;rotate_left
  .exact ⟨0,(gb k_.toNat (⟨zA 10,zA 10⟩:Pat)),H1,kq hh,rfl⟩
  clear hh h H1;rintro m h bs ⟨i,l,H1,hh,rfl⟩;rcases m with _|m
  .rw [zbc] at H1;cases H1
  rw [zbc] at H1;apply fg;refine rk [0,5,10,11,12] [] hh fun h hh=>?_;rcases isp H1 with ⟨c2,H1⟩|⟨c2,H1⟩;rotate_left
  .skip;apply fg;refine cf (f2 hh (zAb c2)) ?_;refine xk ?_;cases H1;exact ce hh ⟨kq hh,rfl⟩
  apply fg;refine ct (f2 hh (zAa c2)) ?_;refine sk ?_;apply fg;apply gl;apply fg;refine rk [0,5,6,10,11] [] hh fun h hh=>?_;obtain ⟨g3,H1⟩:=isg H1;obtain ⟨g4,H1⟩:=isg H1;obtain ⟨g5,H1⟩:=isg H1;refine rk [0,5,10,11] [] (f3 hh (zag g3) (show spl (vecC ePat l) (i.toNat*20) ((((gx t i).mat).mask).l.map (fh .i64)++((((gx t i).mat).bits).l.map (fh .i64)))=_ from zyq ePat 20 ((gx t i).mat) (fun x=>za1 x) g5)) fun h hh=>?_;refine rk [0,5,10,11] [] hh fun h hh=>?_;exact rd m hh ⟨(fi.wrap (i+1)),(l.set i.toNat ((gx t i).mat)),H1,kq hh,rfl⟩
 clear hh h;rintro h bs ⟨hh,rfl⟩;apply fg;refine rk [4] [] hh fun h hh=>?_;obtain ⟨g6,H⟩:=isg H;refine pe 4 (b:=0) (e:=20) (off:=0) (len:=k_.toNat) (cap:=k_.toNat) (M:=(k_.toNat*20)) (s_.map ePat) (kq hh) (by rfl) (by omega) (by omega) (by rw [gp];exact zc5 (fun x=>za1 x) g6) (fun t ht=>by obtain ⟨x,_,rfl⟩:=jo.1 ht;first|rfl|exact zf6 _|exact za1 _|exact zd0 _|exact zau _ | (rw [fq];rfl)) (by rw [fq]<;>exact g6) (by omega) ?_;rw [zec _ _ _ (by simp only [lzA]<;>omega)];simp only [scA];refine gk [4] hh fun h hh=>?_;cases H;exact rt hh
def za5 (k:Nat) (t:List Rule) (k_:Int):Nat->Int->(List Pat)->Option (List Pat)
 |0,_,_=>none
 |m+1,i,l=>(if i<(k_.toNat:Int) then (if 0<=i/\i<(t.length:Int) then (if 0<=i/\i<(k_.toNat:Int) then (if i.toNat<l.length then za5 k t k_ m (fi.wrap (i+1)) (l.set i.toNat ((gx t i).mat)) else none) else none) else none) else some l)
def zcx (k:Nat) (t:List Rule) (k_:Int):Option (List Pat×Nat):=(if 0<=k_/\k_.toNat*161<=1000000000 then ((za5 k t k_ k 0 (gb k_.toNat (⟨zA 10,zA 10⟩:Pat)):Option (List Pat)).bind fun s_=>some (s_,k_.toNat)) else none)
theorem zg8 (ax:Axs) (hx:NoAx ax) (k:Nat) (t:List Rule) (k_:Int) (v:List Pat×Nat) (H:zcx k t k_=some v):Call Try.prog (EE ax) [] 77 [zae t,.int .i64 k_] (stL []) (tupT [.arr 0 20 0 v.2 v.2 (v.2*20)]) (stL [.cells false (v.2*20) (vecC ePat v.1)]):=by
 rw [zcx] at H;refine enBr [.tmp 4] 24 [0,1] (hx.no _ (by decide)) (fn77 ax) ?_;intro h hh;apply fg;refine rk [0,1] [] hh fun h hh=>?_;obtain ⟨g1,H⟩:=isg H;apply fg;refine rk [0,5] [] (f3 hh (z6h (k_.toNat)) ((show (vecC ePat (gb k_.toNat (⟨zA 10,zA 10⟩:Pat))).length=k_.toNat*20 from by rw [zbt (fun x=>za1 x),lf]))) fun h hh=>?_;repeat apply fg
 refine rk [0,5,10,11] [] hh fun h hh=>?_;obtain ⟨s_,H1,H⟩:=zab H;refine cu [5] 1 (fun h bs=>(h 5=.arr 0 20 0 k_.toNat k_.toNat (k_.toNat*20))/\bs=[.cells true (k_.toNat*20) (vecC ePat s_)]) ?_ ?_
 .skip;apply gl;refine jj [0,5,10,11] (fun m h bs=>∃ (i:Int) (l:List Pat),za5 k t k_ m i l=some s_/\(h 0=zae t/\h 5=.arr 0 20 0 k_.toNat k_.toNat (k_.toNat*20)/\h 10=.int .i64 (k_.toNat:Int)/\h 11=.int .i64 i)/\bs=[.cells true (k_.toNat*20) (vecC ePat l)]) ?_ k _ _ ?_;rotate_left
  .exact ⟨0,(gb k_.toNat (⟨zA 10,zA 10⟩:Pat)),H1,kq hh,rfl⟩
  clear hh h H1;rintro m h bs ⟨i,l,H1,hh,rfl⟩;rcases m with _|m
  .rw [za5] at H1;cases H1
  rw [za5] at H1;apply fg;refine rk [0,5,10,11,12] [] hh fun h hh=>?_;rcases isp H1 with ⟨c2,H1⟩|⟨c2,H1⟩;rotate_left
  .skip;apply fg;refine cf (f2 hh (zAb c2)) ?_;refine xk ?_;cases H1;exact ce hh ⟨kq hh,rfl⟩
  apply fg;refine ct (f2 hh (zAa c2)) ?_;refine sk ?_;apply fg;apply gl;apply fg;refine rk [0,5,6,10,11] [] hh fun h hh=>?_;obtain ⟨g3,H1⟩:=isg H1;obtain ⟨g4,H1⟩:=isg H1;obtain ⟨g5,H1⟩:=isg H1;refine rk [0,5,10,11] [] (f3 hh (zag g3) (show spl (vecC ePat l) (i.toNat*20) ((((gx t i).mat).mask).l.map (fh .i64)++((((gx t i).mat).bits).l.map (fh .i64)))=_ from zyq ePat 20 ((gx t i).mat) (fun x=>za1 x) g5)) fun h hh=>?_;refine rk [0,5,10,11] [] hh fun h hh=>?_;exact rd m hh ⟨(fi.wrap (i+1)),(l.set i.toNat ((gx t i).mat)),H1,kq hh,rfl⟩
 clear hh h;rintro h bs ⟨hh,rfl⟩;apply fg;refine rk [4] [] hh fun h hh=>?_;refine uz 0 ?_;cases H;exact rtB hh
def ze9 (k:Nat) (h_:Ar 10) (x0:Bool) (x1:Ar 10):Option (Bool×Ar 10):=(if x0=true then ((zdy k h_ x1).bind fun bj=>(if bj<0 then some (true,h_) else some (true,x1))) else some (true,h_))
theorem zoo (ax:Axs) (hx:NoAx ax) (k:Nat) (h_:Ar 10) (x0:Bool) (x1:Ar 10) (v:Bool×Ar 10) (H:ze9 k h_ x0 x1=some v):Call Try.prog (EE ax) [] 75 [.agg (h_.l.map (fh .i64)),.ptr 0 0 1,.ptr 1 0 10] (stL [.cells true 1 [.bool x0],.cells true 10 (x1.l.map (fh .i64))]) (tupT []) (stL [.cells true 1 [.bool v.1],.cells true 10 (v.2.l.map (fh .i64))]):=by
 rw [ze9] at H;refine enB [] 13 [0,1,2] (hx.no _ (by decide)) (fn75 ax) ?_;intro h hh;apply fg;refine rk [1,2,3] [] hh fun h hh=>?_;rcases isb H with ⟨c1,H⟩|⟨c1,H⟩;rotate_left
 .skip;apply fg;refine rk [1,2,3,11] [] (f2 hh c1) fun h hh=>?_;refine ct hh ?_;refine rk [] [] (f2 hh c1) fun h hh=>?_;cases H;exact rnB hh
 obtain ⟨bj,e2,H⟩:=zab H;apply fg;refine rkc [1,2,3,11] [] [(.int .i64 bj,stL [.cells true 1 [.bool x0],.cells true 10 (x1.l.map (fh .i64)),.cells true 10 (h_.l.map (fh .i64))])] (f2 hh c1) ?_ ?_
 .exact ⟨gd (i7 (zmv ax hx k h_ x1 bj e2 ) (by first|rfl|simp only [c1])),trivial⟩
 clear hh h;intro h hh;rcases isp H with ⟨c3,H⟩|⟨c3,H⟩;rotate_left
 .skip;refine cf (f2 hh (zAb c3)) ?_;refine sk ?_;cases H;exact rnB hh
 refine ct (f2 hh (zAa c3)) ?_;refine rk [] [] (f2 hh c1) fun h hh=>?_;cases H;exact rnB hh
def zbg (k:Nat) (t:List Rule) (u:List Rule) (i:Int):Nat->Int->(Ar 10)->Bool->Option (Ar 10×Bool)
 |0,_,_,_=>none
 |m+1,i2,x3,x4=>(if i2<((u++[(⟨0,⟨zA 10,zA 10⟩,-1,[]⟩:Rule)]).length:Int) then (if 0<=i2/\i2<((u++[(⟨0,⟨zA 10,zA 10⟩,-1,[]⟩:Rule)]).length:Int) then ((zg9 k (⟨(gx (t++[(⟨0,⟨zA 10,zA 10⟩,-1,[]⟩:Rule)]) i).prio,((gx (t++[(⟨0,⟨zA 10,zA 10⟩,-1,[]⟩:Rule)]) i).mat),(gx (t++[(⟨0,⟨zA 10,zA 10⟩,-1,[]⟩:Rule)]) i).step,(gx (t++[(⟨0,⟨zA 10,zA 10⟩,-1,[]⟩:Rule)]) i).outs⟩:Rule) (⟨(gx (u++[(⟨0,⟨zA 10,zA 10⟩,-1,[]⟩:Rule)]) i2).prio,((gx (u++[(⟨0,⟨zA 10,zA 10⟩,-1,[]⟩:Rule)]) i2).mat),(gx (u++[(⟨0,⟨zA 10,zA 10⟩,-1,[]⟩:Rule)]) i2).step,(gx (u++[(⟨0,⟨zA 10,zA 10⟩,-1,[]⟩:Rule)]) i2).outs⟩:Rule)).bind fun am=>(if am=true then zbg k t u i m (fi.wrap (i2+1)) x3 x4 else ((zik k ((gx (t++[(⟨0,⟨zA 10,zA 10⟩,-1,[]⟩:Rule)]) i).mat) ((gx (u++[(⟨0,⟨zA 10,zA 10⟩,-1,[]⟩:Rule)]) i2).mat)).bind fun af=>(if af.2=true then ((((zcx k (t++[(⟨0,⟨zA 10,zA 10⟩,-1,[]⟩:Rule)]) i).bind fun rb=>((zdg k (u++[(⟨0,⟨zA 10,zA 10⟩,-1,[]⟩:Rule)]) i2).bind fun ac=>(if (rb.2+ac.length)*161<=1000000000 then (if ac.length=0 then (if rb.1.length=rb.2 then ((ze4 k af.1 rb.1).bind fun az=>some (az.2,rb.1,rb.2,az.1)) else none) else (if (rb.1++ac).length=rb.2+ac.length then ((ze4 k af.1 (rb.1++ac)).bind fun bc=>some (bc.2,rb.1++ac,rb.2+ac.length,bc.1)) else none)) else none))):Option (Bool×List Pat×Nat×Ar 10)).bind fun s_4=>(if s_4.1=true then ((ze9 k s_4.2.2.2 x4 x3).bind fun rb2=>zbg k t u i m (fi.wrap (i2+1)) rb2.2 rb2.1) else zbg k t u i m (fi.wrap (i2+1)) x3 x4)) else zbg k t u i m (fi.wrap (i2+1)) x3 x4)))) else none) else some (x3,x4))
def zcy (k:Nat) (t:List Rule) (u:List Rule):Nat->Int->(Ar 10)->Bool->Option (Ar 10×Bool)
 |0,_,_,_=>none
 |m+1,i,x,x2=>(if i<((t++[(⟨0,⟨zA 10,zA 10⟩,-1,[]⟩:Rule)]).length:Int) then (((if 0<=i/\i<((t++[(⟨0,⟨zA 10,zA 10⟩,-1,[]⟩:Rule)]).length:Int) then ((zbg k t u i k 0 x x2:Option (Ar 10×Bool)).bind fun s_3=>some (s_3.1,s_3.2)) else none):Option (Ar 10×Bool)).bind fun s_2=>zcy k t u m (fi.wrap (i+1)) s_2.1 s_2.2) else some (x,x2))
def zha (k:Nat) (t:List Rule) (u:List Rule):Option (Ar 10×Bool):=(if t.length*201<=1000000000 then (if (t.length+1)*201<=1000000000 then (if u.length*201<=1000000000 then (if (u.length+1)*201<=1000000000 then (if (t++[(⟨0,⟨zA 10,zA 10⟩,-1,[]⟩:Rule)]).length=t.length+1 then (if (u++[(⟨0,⟨zA 10,zA 10⟩,-1,[]⟩:Rule)]).length=u.length+1 then ((zcy k t u k 0 (zA 10) false:Option (Ar 10×Bool)).bind fun s_=>some (s_.1,(!s_.2))) else none) else none) else none) else none) else none) else none)
theorem ztb (ax:Axs) (hx:NoAx ax) (k:Nat) (t:List Rule) (u:List Rule) (v:Ar 10×Bool) (H:zha k t u=some v):Pure Try.prog (EE ax) [] 60 [zae t,zae u] (tupT [.agg (v.1.l.map (fh .i64)),.bool v.2]):=by
 rw [zha] at H;refine enN [.cell 4 43,.tmp 5] 85 [0,1] (hx.no _ (by decide)) (fn60 ax) ?_;intro h hh;apply fg;refine rk [0,1,4] [] hh fun h hh=>?_;apply fg;refine rk [0,1,4,6] [] hh fun h hh=>?_;refine nz 1 22 1 ?_;refine zk 6 1 23 true (fh .i64 0 :: ((zA 10).l.map (fh .i64)++((zA 10).l.map (fh .i64)++[fh .i64 (-1),za3 []]))) [0,1,4,6] hh fun h hh=>?_;obtain ⟨g1,H⟩:=isg H;obtain ⟨g2,H⟩:=isg H;obtain ⟨g3,H⟩:=isg H;obtain ⟨g4,H⟩:=isg H;apply fg;refine dcg 1 [6] [] [] [(.arr 2 23 0 t.length t.length (t.length*23),stL [.cells true 10 ((zA 10).l.map (fh .i64)),.gone,.cells false (t.length*23) (vecC zaj t)]),(.arr 3 23 0 u.length u.length (u.length*23),stL [.cells true 10 ((zA 10).l.map (fh .i64)),.gone,.cells false ((t.length+1)*23) (vecC zaj (t++[(⟨0,⟨zA 10,zA 10⟩,-1,[]⟩:Rule)])),.cells false (u.length*23) (vecC zaj u)])] [.cells true 10 ((zA 10).l.map (fh .i64)),.gone,.cells false ((t.length+1)*23) (vecC zaj (t++[(⟨0,⟨zA 10,zA 10⟩,-1,[]⟩:Rule)])),.cells false ((u.length+1)*23) (vecC zaj (u++[(⟨0,⟨zA 10,zA 10⟩,-1,[]⟩:Rule)]))] (fun h=>h 4=.ptr 0 0 10/\h 7=.arr 2 23 0 (t.length+1) (t.length+1) ((t.length+1)*23)/\h 8=.arr 3 23 0 (u.length+1) (u.length+1) ((u.length+1)*23)) (f2 hh ((show vecC zaj [(⟨0,⟨zA 10,zA 10⟩,-1,[]⟩:Rule)]=(fh .i64 ((⟨0,⟨zA 10,zA 10⟩,-1,[]⟩:Rule).prio) :: ((((⟨0,⟨zA 10,zA 10⟩,-1,[]⟩:Rule).mat).mask).l.map (fh .i64)++((((⟨0,⟨zA 10,zA 10⟩,-1,[]⟩:Rule).mat).bits).l.map (fh .i64)++[fh .i64 ((⟨0,⟨zA 10,zA 10⟩,-1,[]⟩:Rule).step),za3 ((⟨0,⟨zA 10,zA 10⟩,-1,[]⟩:Rule).outs)]))) from zdk.trans rfl))) trivial ?_ ?_
 .exact ⟨(by have q:=sg (zlf ax hx t g1) (by simp only [zbl,idsA,idsB,gc]) (by simp only [zbl,idsA,idsB,gc]) [.cells true 10 ((zA 10).l.map (fh .i64)),.gone];first|exact q | (simp only [jm,m8,zaw,(show vecC zaj [(⟨0,⟨zA 10,zA 10⟩,-1,[]⟩:Rule)]=(fh .i64 ((⟨0,⟨zA 10,zA 10⟩,-1,[]⟩:Rule).prio) :: ((((⟨0,⟨zA 10,zA 10⟩,-1,[]⟩:Rule).mat).mask).l.map (fh .i64)++((((⟨0,⟨zA 10,zA 10⟩,-1,[]⟩:Rule).mat).bits).l.map (fh .i64)++[fh .i64 ((⟨0,⟨zA 10,zA 10⟩,-1,[]⟩:Rule).step),za3 ((⟨0,⟨zA 10,zA 10⟩,-1,[]⟩:Rule).outs)]))) from zdk.trans rfl)] at q ⊢;exact q)),(by have q:=sg (zlf ax hx u g3) (by simp only [zbl,idsA,idsB,gc]) (by simp only [zbl,idsA,idsB,gc]) [.cells true 10 ((zA 10).l.map (fh .i64)),.gone,.cells false ((t.length+1)*23) (vecC zaj (t++[(⟨0,⟨zA 10,zA 10⟩,-1,[]⟩:Rule)]))];first|exact q | (simp only [jm,m8,zaw,(show vecC zaj [(⟨0,⟨zA 10,zA 10⟩,-1,[]⟩:Rule)]=(fh .i64 ((⟨0,⟨zA 10,zA 10⟩,-1,[]⟩:Rule).prio) :: ((((⟨0,⟨zA 10,zA 10⟩,-1,[]⟩:Rule).mat).mask).l.map (fh .i64)++((((⟨0,⟨zA 10,zA 10⟩,-1,[]⟩:Rule).mat).bits).l.map (fh .i64)++[fh .i64 ((⟨0,⟨zA 10,zA 10⟩,-1,[]⟩:Rule).step),za3 ((⟨0,⟨zA 10,zA 10⟩,-1,[]⟩:Rule).outs)]))) from zdk.trans rfl)] at q ⊢;exact q)),trivial⟩
 clear hh h;intro h hh;obtain ⟨g5,H⟩:=isg H;apply fg;refine pe 7 (b:=2) (e:=23) (off:=0) (len:=(t.length+1)) (cap:=(t.length+1)) (M:=((t.length+1)*23)) ((t++[(⟨0,⟨zA 10,zA 10⟩,-1,[]⟩:Rule)]).map zaj) (kq hh) (by rfl) (by omega) (by omega) (by rw [gp];exact zc5 (e:=23) (fun x=>zau x) g5) (fun t ht=>by obtain ⟨x,_,rfl⟩:=jo.1 ht;first|rfl|exact zf6 _|exact za1 _|exact zd0 _|exact zau _ | (rw [fq];rfl)) (by rw [fq]<;>exact g5) (by omega) ?_;rw [zec _ _ _ (by simp only [lzA]<;>omega)];simp only [scA];refine gk [4,7,8] hh fun h hh=>?_;obtain ⟨g6,H⟩:=isg H;refine pe 8 (b:=3) (e:=23) (off:=0) (len:=(u.length+1)) (cap:=(u.length+1)) (M:=((u.length+1)*23)) ((u++[(⟨0,⟨zA 10,zA 10⟩,-1,[]⟩:Rule)]).map zaj) (kq hh) (by rfl) (by omega) (by omega) (by rw [gp];exact zc5 (e:=23) (fun x=>zau x) g6) (fun t ht=>by obtain ⟨x,_,rfl⟩:=jo.1 ht;first|rfl|exact zf6 _|exact za1 _|exact zd0 _|exact zau _ | (rw [fq];rfl)) (by rw [fq]<;>exact g6) (by omega) ?_;rw [zec _ _ _ (by simp only [lzA]<;>omega)];simp only [scA];refine gk [4,7,8] hh fun h hh=>?_;refine rk [4,7,8,9] [] hh fun h hh=>?_;apply fg;refine rk [4,7,8,9,10] [] hh fun h hh=>?_;apply fg;refine rk [4,7,8,9,10,11] [] hh fun h hh=>?_;apply fg;refine rk [4,7,8,9,10,11,12,13] [] hh fun h hh=>?_;repeat apply fg
 refine rk [4,8,9,10,11,12,13,38,39,40] [] hh fun h hh=>?_;obtain ⟨s_,H1,H⟩:=zab H;refine cu [4,9,10] 6 (fun h bs=>(h 4=.ptr 0 0 10/\h 9=.ptr 4 0 10/\h 10=.ptr 5 0 1)/\bs=[.cells true 10 ((zA 10).l.map (fh .i64)),.gone,.gone,.gone,.cells true 10 (s_.1.l.map (fh .i64)),.cells true 1 [.bool s_.2]]) ?_ ?_
 .skip;apply gl;refine jj [4,8,9,10,11,12,13,38,39,40] (fun m h bs=>∃ (i:Int) (x:Ar 10) (x2:Bool),zcy k t u m i x x2=some s_/\(h 4=.ptr 0 0 10/\h 8=zae (u++[(⟨0,⟨zA 10,zA 10⟩,-1,[]⟩:Rule)])/\h 9=.ptr 4 0 10/\h 10=.ptr 5 0 1/\h 11=.fn 75 [] [.ptr 5 0 1,.ptr 4 0 10]/\h 12=.fn 77 [zae (t++[(⟨0,⟨zA 10,zA 10⟩,-1,[]⟩:Rule)])] []/\h 13=.fn 77 [zae (u++[(⟨0,⟨zA 10,zA 10⟩,-1,[]⟩:Rule)])] []/\h 38=zae (t++[(⟨0,⟨zA 10,zA 10⟩,-1,[]⟩:Rule)])/\h 39=.int .i64 ((t++[(⟨0,⟨zA 10,zA 10⟩,-1,[]⟩:Rule)]).length:Int)/\h 40=.int .i64 i)/\bs=[.cells true 10 ((zA 10).l.map (fh .i64)),.gone,.gone,.gone,.cells true 10 (x.l.map (fh .i64)),.cells true 1 [.bool x2]]) ?_ k _ _ ?_;rotate_left
  .exact ⟨0,(zA 10),false,H1,kq hh,rfl⟩
  clear hh h H1;rintro m h bs ⟨i,x,x2,H1,hh,rfl⟩;rcases m with _|m
  .rw [zcy] at H1;cases H1
  rw [zcy] at H1;apply fg;refine rk [4,8,9,10,11,12,13,38,39,40,41] [] hh fun h hh=>?_;rcases isp H1 with ⟨c7,H1⟩|⟨c7,H1⟩;rotate_left
  .skip;apply fg;refine cf (f2 hh (zAb c7)) ?_;refine xk ?_;cases H1;exact ce hh ⟨kq hh,rfl⟩
  apply fg;refine ct (f2 hh (zAa c7)) ?_;refine sk ?_;obtain ⟨s_2,H2,H1⟩:=zab H1;apply fg;refine cu [4,8,9,10,11,12,13,38,39,40] 6 (fun h bs=>(h 4=.ptr 0 0 10/\h 8=zae (u++[(⟨0,⟨zA 10,zA 10⟩,-1,[]⟩:Rule)])/\h 9=.ptr 4 0 10/\h 10=.ptr 5 0 1/\h 11=.fn 75 [] [.ptr 5 0 1,.ptr 4 0 10]/\h 12=.fn 77 [zae (t++[(⟨0,⟨zA 10,zA 10⟩,-1,[]⟩:Rule)])] []/\h 13=.fn 77 [zae (u++[(⟨0,⟨zA 10,zA 10⟩,-1,[]⟩:Rule)])] []/\h 38=zae (t++[(⟨0,⟨zA 10,zA 10⟩,-1,[]⟩:Rule)])/\h 39=.int .i64 ((t++[(⟨0,⟨zA 10,zA 10⟩,-1,[]⟩:Rule)]).length:Int)/\h 40=.int .i64 i)/\bs=[.cells true 10 ((zA 10).l.map (fh .i64)),.gone,.gone,.gone,.cells true 10 (s_2.1.l.map (fh .i64)),.cells true 1 [.bool s_2.2]]) ?_ ?_
  .skip;apply gl;obtain ⟨g8,H2⟩:=isg H2;apply fg;refine rk [4,8,9,10,11,12,13,14,15,38,39,40] [] (f2 hh (zag g8)) fun h hh=>?_;apply fg;refine rk [4,8,9,10,11,12,13,14,15,38,39,40,45,46,47] [] hh fun h hh=>?_;obtain ⟨s_3,H3,H2⟩:=zab H2;refine cu [4,8,9,10,11,12,13,38,39,40] 7 (fun h bs=>(h 4=.ptr 0 0 10/\h 8=zae (u++[(⟨0,⟨zA 10,zA 10⟩,-1,[]⟩:Rule)])/\h 9=.ptr 4 0 10/\h 10=.ptr 5 0 1/\h 11=.fn 75 [] [.ptr 5 0 1,.ptr 4 0 10]/\h 12=.fn 77 [zae (t++[(⟨0,⟨zA 10,zA 10⟩,-1,[]⟩:Rule)])] []/\h 13=.fn 77 [zae (u++[(⟨0,⟨zA 10,zA 10⟩,-1,[]⟩:Rule)])] []/\h 38=zae (t++[(⟨0,⟨zA 10,zA 10⟩,-1,[]⟩:Rule)])/\h 39=.int .i64 ((t++[(⟨0,⟨zA 10,zA 10⟩,-1,[]⟩:Rule)]).length:Int)/\h 40=.int .i64 i)/\bs=[.cells true 10 ((zA 10).l.map (fh .i64)),.gone,.gone,.gone,.cells true 10 (s_3.1.l.map (fh .i64)),.cells true 1 [.bool s_3.2],.cells true 23 (fh .i64 ((gx (t++[(⟨0,⟨zA 10,zA 10⟩,-1,[]⟩:Rule)]) i).prio) :: ((((gx (t++[(⟨0,⟨zA 10,zA 10⟩,-1,[]⟩:Rule)]) i).mat).mask).l.map (fh .i64)++((((gx (t++[(⟨0,⟨zA 10,zA 10⟩,-1,[]⟩:Rule)]) i).mat).bits).l.map (fh .i64)++[fh .i64 ((gx (t++[(⟨0,⟨zA 10,zA 10⟩,-1,[]⟩:Rule)]) i).step),za3 ((gx (t++[(⟨0,⟨zA 10,zA 10⟩,-1,[]⟩:Rule)]) i).outs)])))]) ?_ ?_
   .skip;apply gl;refine jj [4,8,9,10,11,12,13,14,15,38,39,40,45,46,47] (fun m h bs=>∃ (i2:Int) (x3:Ar 10) (x4:Bool),zbg k t u i m i2 x3 x4=some s_3/\(h 4=.ptr 0 0 10/\h 8=zae (u++[(⟨0,⟨zA 10,zA 10⟩,-1,[]⟩:Rule)])/\h 9=.ptr 4 0 10/\h 10=.ptr 5 0 1/\h 11=.fn 75 [] [.ptr 5 0 1,.ptr 4 0 10]/\h 12=.fn 77 [zae (t++[(⟨0,⟨zA 10,zA 10⟩,-1,[]⟩:Rule)])] []/\h 13=.fn 77 [zae (u++[(⟨0,⟨zA 10,zA 10⟩,-1,[]⟩:Rule)])] []/\h 14=.int .i64 i/\h 15=.ptr 6 0 23/\h 38=zae (t++[(⟨0,⟨zA 10,zA 10⟩,-1,[]⟩:Rule)])/\h 39=.int .i64 ((t++[(⟨0,⟨zA 10,zA 10⟩,-1,[]⟩:Rule)]).length:Int)/\h 40=.int .i64 i/\h 45=zae (u++[(⟨0,⟨zA 10,zA 10⟩,-1,[]⟩:Rule)])/\h 46=.int .i64 ((u++[(⟨0,⟨zA 10,zA 10⟩,-1,[]⟩:Rule)]).length:Int)/\h 47=.int .i64 i2)/\bs=[.cells true 10 ((zA 10).l.map (fh .i64)),.gone,.gone,.gone,.cells true 10 (x3.l.map (fh .i64)),.cells true 1 [.bool x4],.cells true 23 (fh .i64 ((gx (t++[(⟨0,⟨zA 10,zA 10⟩,-1,[]⟩:Rule)]) i).prio) :: ((((gx (t++[(⟨0,⟨zA 10,zA 10⟩,-1,[]⟩:Rule)]) i).mat).mask).l.map (fh .i64)++((((gx (t++[(⟨0,⟨zA 10,zA 10⟩,-1,[]⟩:Rule)]) i).mat).bits).l.map (fh .i64)++[fh .i64 ((gx (t++[(⟨0,⟨zA 10,zA 10⟩,-1,[]⟩:Rule)]) i).step),za3 ((gx (t++[(⟨0,⟨zA 10,zA 10⟩,-1,[]⟩:Rule)]) i).outs)])))]) ?_ k _ _ ?_;rotate_left
    .exact ⟨0,x,x2,H3,kq hh,rfl⟩
    clear hh h H3;rintro m h bs ⟨i2,x3,x4,H3,hh,rfl⟩;rcases m with _|m
    .rw [zbg] at H3;cases H3
    rw [zbg] at H3;apply fg;refine rk [4,8,9,10,11,12,13,14,15,38,39,40,45,46,47,48] [] hh fun h hh=>?_;rcases isp H3 with ⟨c9,H3⟩|⟨c9,H3⟩;rotate_left
    .skip;apply fg;refine cf (f2 hh (zAb c9)) ?_;refine xk ?_;cases H3;exact ce hh ⟨kq hh,rfl⟩
    apply fg;refine ct (f2 hh (zAa c9)) ?_;refine sk ?_;apply fg;apply gl;obtain ⟨g10,H3⟩:=isg H3;apply fg;refine rk [4,8,9,10,11,12,13,14,15,16,17,38,39,40,45,46,47] [] (f2 hh (zag g10)) fun h hh=>?_;obtain ⟨am,e11,H3⟩:=zab H3;repeat apply fg
    refine rkp [4,8,9,10,11,12,13,14,15,16,17,38,39,40,45,46,47,54] [] [.bool am] hh ?_ ?_
    .exact ⟨gd ((zmp ax hx k (⟨(gx (t++[(⟨0,⟨zA 10,zA 10⟩,-1,[]⟩:Rule)]) i).prio,((gx (t++[(⟨0,⟨zA 10,zA 10⟩,-1,[]⟩:Rule)]) i).mat),(gx (t++[(⟨0,⟨zA 10,zA 10⟩,-1,[]⟩:Rule)]) i).step,(gx (t++[(⟨0,⟨zA 10,zA 10⟩,-1,[]⟩:Rule)]) i).outs⟩:Rule) (⟨(gx (u++[(⟨0,⟨zA 10,zA 10⟩,-1,[]⟩:Rule)]) i2).prio,((gx (u++[(⟨0,⟨zA 10,zA 10⟩,-1,[]⟩:Rule)]) i2).mat),(gx (u++[(⟨0,⟨zA 10,zA 10⟩,-1,[]⟩:Rule)]) i2).step,(gx (u++[(⟨0,⟨zA 10,zA 10⟩,-1,[]⟩:Rule)]) i2).outs⟩:Rule) am e11 ).call _),trivial⟩
    clear hh h;intro h hh;rcases isb H3 with ⟨c12,H3⟩|⟨c12,H3⟩;rotate_left
    .skip;refine cf (f2 hh c12) ?_;refine sk ?_;obtain ⟨af,e13,H3⟩:=zab H3;apply fg;refine rkc [4,8,9,10,11,12,13,14,15,16,18,19,38,39,40,45,46,47] [] [(.tup [ePat af.1,.bool af.2],stL [.cells true 10 ((zA 10).l.map (fh .i64)),.gone,.gone,.gone,.cells true 10 (x3.l.map (fh .i64)),.cells true 1 [.bool x4],.cells true 23 (fh .i64 ((gx (t++[(⟨0,⟨zA 10,zA 10⟩,-1,[]⟩:Rule)]) i).prio) :: ((((gx (t++[(⟨0,⟨zA 10,zA 10⟩,-1,[]⟩:Rule)]) i).mat).mask).l.map (fh .i64)++((((gx (t++[(⟨0,⟨zA 10,zA 10⟩,-1,[]⟩:Rule)]) i).mat).bits).l.map (fh .i64)++[fh .i64 ((gx (t++[(⟨0,⟨zA 10,zA 10⟩,-1,[]⟩:Rule)]) i).step),za3 ((gx (t++[(⟨0,⟨zA 10,zA 10⟩,-1,[]⟩:Rule)]) i).outs)]))),.cells true 23 (fh .i64 ((gx (u++[(⟨0,⟨zA 10,zA 10⟩,-1,[]⟩:Rule)]) i2).prio) :: ((((gx (u++[(⟨0,⟨zA 10,zA 10⟩,-1,[]⟩:Rule)]) i2).mat).mask).l.map (fh .i64)++((((gx (u++[(⟨0,⟨zA 10,zA 10⟩,-1,[]⟩:Rule)]) i2).mat).bits).l.map (fh .i64)++[fh .i64 ((gx (u++[(⟨0,⟨zA 10,zA 10⟩,-1,[]⟩:Rule)]) i2).step),za3 ((gx (u++[(⟨0,⟨zA 10,zA 10⟩,-1,[]⟩:Rule)]) i2).outs)])))])] (f2 hh c12) ?_ ?_
     .exact ⟨gd (i7 (zrj ax hx k ((gx (t++[(⟨0,⟨zA 10,zA 10⟩,-1,[]⟩:Rule)]) i).mat) ((gx (u++[(⟨0,⟨zA 10,zA 10⟩,-1,[]⟩:Rule)]) i2).mat) af e13 ) (by first|rfl|simp only [c12])),trivial⟩
     clear hh h;intro h hh;refine zk 18 8 20 true (af.1.mask.l.map (fh .i64)++(af.1.bits.l.map (fh .i64))) [4,8,9,10,11,12,13,14,15,16,18,19,38,39,40,45,46,47] hh fun h hh=>?_;apply fg;refine rk [4,8,9,10,11,12,13,14,15,16,18,38,39,40,45,46,47,63] [] (f2 hh c12) fun h hh=>?_;rcases isb H3 with ⟨c14,H3⟩|⟨c14,H3⟩;rotate_left
     .skip;refine cf (f2 hh c14) ?_;refine sk ?_;refine rk [4,8,9,10,11,12,13,14,15,38,39,40,45,46,47] [] (f3 hh c12 c14) fun h hh=>?_;exact rd m hh ⟨(fi.wrap (i2+1)),x3,x4,H3,kq hh,rfl⟩
     refine ct (f2 hh c14) ?_;obtain ⟨s_4,H4,H3⟩:=zab H3;apply fg;refine cu [4,8,9,10,11,12,13,14,15,20,21,38,39,40,45,46,47] 11 (fun h bs=>(h 4=.ptr 0 0 10/\h 8=zae (u++[(⟨0,⟨zA 10,zA 10⟩,-1,[]⟩:Rule)])/\h 9=.ptr 4 0 10/\h 10=.ptr 5 0 1/\h 11=.fn 75 [] [.ptr 5 0 1,.ptr 4 0 10]/\h 12=.fn 77 [zae (t++[(⟨0,⟨zA 10,zA 10⟩,-1,[]⟩:Rule)])] []/\h 13=.fn 77 [zae (u++[(⟨0,⟨zA 10,zA 10⟩,-1,[]⟩:Rule)])] []/\h 14=.int .i64 i/\h 15=.ptr 6 0 23/\h 20=.ptr 10 0 10/\h 21=.bool s_4.1/\h 38=zae (t++[(⟨0,⟨zA 10,zA 10⟩,-1,[]⟩:Rule)])/\h 39=.int .i64 ((t++[(⟨0,⟨zA 10,zA 10⟩,-1,[]⟩:Rule)]).length:Int)/\h 40=.int .i64 i/\h 45=zae (u++[(⟨0,⟨zA 10,zA 10⟩,-1,[]⟩:Rule)])/\h 46=.int .i64 ((u++[(⟨0,⟨zA 10,zA 10⟩,-1,[]⟩:Rule)]).length:Int)/\h 47=.int .i64 i2)/\bs=[.cells true 10 ((zA 10).l.map (fh .i64)),.gone,.gone,.gone,.cells true 10 (x3.l.map (fh .i64)),.cells true 1 [.bool x4],.cells true 23 (fh .i64 ((gx (t++[(⟨0,⟨zA 10,zA 10⟩,-1,[]⟩:Rule)]) i).prio) :: ((((gx (t++[(⟨0,⟨zA 10,zA 10⟩,-1,[]⟩:Rule)]) i).mat).mask).l.map (fh .i64)++((((gx (t++[(⟨0,⟨zA 10,zA 10⟩,-1,[]⟩:Rule)]) i).mat).bits).l.map (fh .i64)++[fh .i64 ((gx (t++[(⟨0,⟨zA 10,zA 10⟩,-1,[]⟩:Rule)]) i).step),za3 ((gx (t++[(⟨0,⟨zA 10,zA 10⟩,-1,[]⟩:Rule)]) i).outs)]))),.cells true 23 (fh .i64 ((gx (u++[(⟨0,⟨zA 10,zA 10⟩,-1,[]⟩:Rule)]) i2).prio) :: ((((gx (u++[(⟨0,⟨zA 10,zA 10⟩,-1,[]⟩:Rule)]) i2).mat).mask).l.map (fh .i64)++((((gx (u++[(⟨0,⟨zA 10,zA 10⟩,-1,[]⟩:Rule)]) i2).mat).bits).l.map (fh .i64)++[fh .i64 ((gx (u++[(⟨0,⟨zA 10,zA 10⟩,-1,[]⟩:Rule)]) i2).step),za3 ((gx (u++[(⟨0,⟨zA 10,zA 10⟩,-1,[]⟩:Rule)]) i2).outs)]))),.gone,.cells false (s_4.2.2.1*20) (vecC ePat s_4.2.1),.cells true 10 (s_4.2.2.2.l.map (fh .i64))]) ?_ ?_
     .skip;obtain ⟨rb,e15,H4⟩:=zab H4;obtain ⟨ac,e16,H4⟩:=zab H4;obtain ⟨g17,H4⟩:=isg H4;rcases isp H4 with ⟨c18,H4⟩|⟨c18,H4⟩;rotate_left
      .skip;obtain ⟨g21,H4⟩:=isg H4;obtain ⟨bc,e22,H4⟩:=zab H4;refine dcg 3 [18] [] [] [(.arr 9 20 0 rb.2 rb.2 (rb.2*20),stL [.cells true 10 ((zA 10).l.map (fh .i64)),.gone,.gone,.gone,.cells true 10 (x3.l.map (fh .i64)),.cells true 1 [.bool x4],.cells true 23 (fh .i64 ((gx (t++[(⟨0,⟨zA 10,zA 10⟩,-1,[]⟩:Rule)]) i).prio) :: ((((gx (t++[(⟨0,⟨zA 10,zA 10⟩,-1,[]⟩:Rule)]) i).mat).mask).l.map (fh .i64)++((((gx (t++[(⟨0,⟨zA 10,zA 10⟩,-1,[]⟩:Rule)]) i).mat).bits).l.map (fh .i64)++[fh .i64 ((gx (t++[(⟨0,⟨zA 10,zA 10⟩,-1,[]⟩:Rule)]) i).step),za3 ((gx (t++[(⟨0,⟨zA 10,zA 10⟩,-1,[]⟩:Rule)]) i).outs)]))),.cells true 23 (fh .i64 ((gx (u++[(⟨0,⟨zA 10,zA 10⟩,-1,[]⟩:Rule)]) i2).prio) :: ((((gx (u++[(⟨0,⟨zA 10,zA 10⟩,-1,[]⟩:Rule)]) i2).mat).mask).l.map (fh .i64)++((((gx (u++[(⟨0,⟨zA 10,zA 10⟩,-1,[]⟩:Rule)]) i2).mat).bits).l.map (fh .i64)++[fh .i64 ((gx (u++[(⟨0,⟨zA 10,zA 10⟩,-1,[]⟩:Rule)]) i2).step),za3 ((gx (u++[(⟨0,⟨zA 10,zA 10⟩,-1,[]⟩:Rule)]) i2).outs)]))),.gone,.cells false (rb.2*20) (vecC ePat rb.1)]),(lPat ac,stL [.cells true 10 ((zA 10).l.map (fh .i64)),.gone,.gone,.gone,.cells true 10 (x3.l.map (fh .i64)),.cells true 1 [.bool x4],.cells true 23 (fh .i64 ((gx (t++[(⟨0,⟨zA 10,zA 10⟩,-1,[]⟩:Rule)]) i).prio) :: ((((gx (t++[(⟨0,⟨zA 10,zA 10⟩,-1,[]⟩:Rule)]) i).mat).mask).l.map (fh .i64)++((((gx (t++[(⟨0,⟨zA 10,zA 10⟩,-1,[]⟩:Rule)]) i).mat).bits).l.map (fh .i64)++[fh .i64 ((gx (t++[(⟨0,⟨zA 10,zA 10⟩,-1,[]⟩:Rule)]) i).step),za3 ((gx (t++[(⟨0,⟨zA 10,zA 10⟩,-1,[]⟩:Rule)]) i).outs)]))),.cells true 23 (fh .i64 ((gx (u++[(⟨0,⟨zA 10,zA 10⟩,-1,[]⟩:Rule)]) i2).prio) :: ((((gx (u++[(⟨0,⟨zA 10,zA 10⟩,-1,[]⟩:Rule)]) i2).mat).mask).l.map (fh .i64)++((((gx (u++[(⟨0,⟨zA 10,zA 10⟩,-1,[]⟩:Rule)]) i2).mat).bits).l.map (fh .i64)++[fh .i64 ((gx (u++[(⟨0,⟨zA 10,zA 10⟩,-1,[]⟩:Rule)]) i2).step),za3 ((gx (u++[(⟨0,⟨zA 10,zA 10⟩,-1,[]⟩:Rule)]) i2).outs)]))),.gone,.cells false (rb.2*20) (vecC ePat rb.1)]),(.tup [.agg (bc.1.l.map (fh .i64)),.bool bc.2],stL [.cells true 10 ((zA 10).l.map (fh .i64)),.gone,.gone,.gone,.cells true 10 (x3.l.map (fh .i64)),.cells true 1 [.bool x4],.cells true 23 (fh .i64 ((gx (t++[(⟨0,⟨zA 10,zA 10⟩,-1,[]⟩:Rule)]) i).prio) :: ((((gx (t++[(⟨0,⟨zA 10,zA 10⟩,-1,[]⟩:Rule)]) i).mat).mask).l.map (fh .i64)++((((gx (t++[(⟨0,⟨zA 10,zA 10⟩,-1,[]⟩:Rule)]) i).mat).bits).l.map (fh .i64)++[fh .i64 ((gx (t++[(⟨0,⟨zA 10,zA 10⟩,-1,[]⟩:Rule)]) i).step),za3 ((gx (t++[(⟨0,⟨zA 10,zA 10⟩,-1,[]⟩:Rule)]) i).outs)]))),.cells true 23 (fh .i64 ((gx (u++[(⟨0,⟨zA 10,zA 10⟩,-1,[]⟩:Rule)]) i2).prio) :: ((((gx (u++[(⟨0,⟨zA 10,zA 10⟩,-1,[]⟩:Rule)]) i2).mat).mask).l.map (fh .i64)++((((gx (u++[(⟨0,⟨zA 10,zA 10⟩,-1,[]⟩:Rule)]) i2).mat).bits).l.map (fh .i64)++[fh .i64 ((gx (u++[(⟨0,⟨zA 10,zA 10⟩,-1,[]⟩:Rule)]) i2).step),za3 ((gx (u++[(⟨0,⟨zA 10,zA 10⟩,-1,[]⟩:Rule)]) i2).outs)]))),.gone,.cells false ((rb.2+ac.length)*20) (vecC ePat (rb.1++ac))])] [.cells true 10 ((zA 10).l.map (fh .i64)),.gone,.gone,.gone,.cells true 10 (x3.l.map (fh .i64)),.cells true 1 [.bool x4],.cells true 23 (fh .i64 ((gx (t++[(⟨0,⟨zA 10,zA 10⟩,-1,[]⟩:Rule)]) i).prio) :: ((((gx (t++[(⟨0,⟨zA 10,zA 10⟩,-1,[]⟩:Rule)]) i).mat).mask).l.map (fh .i64)++((((gx (t++[(⟨0,⟨zA 10,zA 10⟩,-1,[]⟩:Rule)]) i).mat).bits).l.map (fh .i64)++[fh .i64 ((gx (t++[(⟨0,⟨zA 10,zA 10⟩,-1,[]⟩:Rule)]) i).step),za3 ((gx (t++[(⟨0,⟨zA 10,zA 10⟩,-1,[]⟩:Rule)]) i).outs)]))),.cells true 23 (fh .i64 ((gx (u++[(⟨0,⟨zA 10,zA 10⟩,-1,[]⟩:Rule)]) i2).prio) :: ((((gx (u++[(⟨0,⟨zA 10,zA 10⟩,-1,[]⟩:Rule)]) i2).mat).mask).l.map (fh .i64)++((((gx (u++[(⟨0,⟨zA 10,zA 10⟩,-1,[]⟩:Rule)]) i2).mat).bits).l.map (fh .i64)++[fh .i64 ((gx (u++[(⟨0,⟨zA 10,zA 10⟩,-1,[]⟩:Rule)]) i2).step),za3 ((gx (u++[(⟨0,⟨zA 10,zA 10⟩,-1,[]⟩:Rule)]) i2).outs)]))),.gone,.cells false ((rb.2+ac.length)*20) (vecC ePat (rb.1++ac)),.cells true 10 (bc.1.l.map (fh .i64))] (fun h=>h 4=.ptr 0 0 10/\h 8=zae (u++[(⟨0,⟨zA 10,zA 10⟩,-1,[]⟩:Rule)])/\h 9=.ptr 4 0 10/\h 10=.ptr 5 0 1/\h 11=.fn 75 [] [.ptr 5 0 1,.ptr 4 0 10]/\h 12=.fn 77 [zae (t++[(⟨0,⟨zA 10,zA 10⟩,-1,[]⟩:Rule)])] []/\h 13=.fn 77 [zae (u++[(⟨0,⟨zA 10,zA 10⟩,-1,[]⟩:Rule)])] []/\h 14=.int .i64 i/\h 15=.ptr 6 0 23/\h 20=.ptr 10 0 10/\h 21=.bool bc.2/\h 38=zae (t++[(⟨0,⟨zA 10,zA 10⟩,-1,[]⟩:Rule)])/\h 39=.int .i64 ((t++[(⟨0,⟨zA 10,zA 10⟩,-1,[]⟩:Rule)]).length:Int)/\h 40=.int .i64 i/\h 45=zae (u++[(⟨0,⟨zA 10,zA 10⟩,-1,[]⟩:Rule)])/\h 46=.int .i64 ((u++[(⟨0,⟨zA 10,zA 10⟩,-1,[]⟩:Rule)]).length:Int)/\h 47=.int .i64 i2) (f3 hh c12 (f3 c14 (zgg ePat ac) (f2 (zbt (f:=ePat) (e:=20) (fun x=>za1 x) ac) (zet (f:=ePat) (fun x=>zn0 x) ac)))) trivial ?_ ?_
       .exact ⟨car [9] (zg8 ax hx k (t++[(⟨0,⟨zA 10,zA 10⟩,-1,[]⟩:Rule)]) i rb e15),gd (i7 (zhy ax hx k (u++[(⟨0,⟨zA 10,zA 10⟩,-1,[]⟩:Rule)]) i2 ac e16 ) (by first|rfl|simp only [c12,c14])),(by have q:=gd (Pure.lend (S:=stL [.cells true 10 ((zA 10).l.map (fh .i64)),.gone,.gone,.gone,.cells true 10 (x3.l.map (fh .i64)),.cells true 1 [.bool x4],.cells true 23 (fh .i64 ((gx (t++[(⟨0,⟨zA 10,zA 10⟩,-1,[]⟩:Rule)]) i).prio) :: ((((gx (t++[(⟨0,⟨zA 10,zA 10⟩,-1,[]⟩:Rule)]) i).mat).mask).l.map (fh .i64)++((((gx (t++[(⟨0,⟨zA 10,zA 10⟩,-1,[]⟩:Rule)]) i).mat).bits).l.map (fh .i64)++[fh .i64 ((gx (t++[(⟨0,⟨zA 10,zA 10⟩,-1,[]⟩:Rule)]) i).step),za3 ((gx (t++[(⟨0,⟨zA 10,zA 10⟩,-1,[]⟩:Rule)]) i).outs)]))),.cells true 23 (fh .i64 ((gx (u++[(⟨0,⟨zA 10,zA 10⟩,-1,[]⟩:Rule)]) i2).prio) :: ((((gx (u++[(⟨0,⟨zA 10,zA 10⟩,-1,[]⟩:Rule)]) i2).mat).mask).l.map (fh .i64)++((((gx (u++[(⟨0,⟨zA 10,zA 10⟩,-1,[]⟩:Rule)]) i2).mat).bits).l.map (fh .i64)++[fh .i64 ((gx (u++[(⟨0,⟨zA 10,zA 10⟩,-1,[]⟩:Rule)]) i2).step),za3 ((gx (u++[(⟨0,⟨zA 10,zA 10⟩,-1,[]⟩:Rule)]) i2).outs)]))),.gone,.cells false ((rb.2+ac.length)*20) (vecC ePat (rb.1++ac))]) (args:=[ePat af.1,.arr 9 20 0 (rb.2+ac.length) (rb.2+ac.length) ((rb.2+ac.length)*20)]) (zma ax hx k af.1 (rb.1++ac) bc e22 ) (fd (Or.inl rfl) (fd (zsn (fun x=>za1 x) (by decide) (by rfl) g21) (trivial))) (by first|rfl | (simp only [tupT,T.flat,T.flatL,zuv,zix,gc];done)));(try simp only [c12,c14] at q);first|exact q | (simp only [jm,m8,zaw] at q ⊢;exact q)),trivial⟩
       clear hh h;intro h hh;cases H4;exact ce hh ⟨kq hh,rfl⟩
      obtain ⟨g19,H4⟩:=isg H4;obtain ⟨az,e20,H4⟩:=zab H4;refine dcg 3 [18] [] [] [(.arr 9 20 0 rb.2 rb.2 (rb.2*20),stL [.cells true 10 ((zA 10).l.map (fh .i64)),.gone,.gone,.gone,.cells true 10 (x3.l.map (fh .i64)),.cells true 1 [.bool x4],.cells true 23 (fh .i64 ((gx (t++[(⟨0,⟨zA 10,zA 10⟩,-1,[]⟩:Rule)]) i).prio) :: ((((gx (t++[(⟨0,⟨zA 10,zA 10⟩,-1,[]⟩:Rule)]) i).mat).mask).l.map (fh .i64)++((((gx (t++[(⟨0,⟨zA 10,zA 10⟩,-1,[]⟩:Rule)]) i).mat).bits).l.map (fh .i64)++[fh .i64 ((gx (t++[(⟨0,⟨zA 10,zA 10⟩,-1,[]⟩:Rule)]) i).step),za3 ((gx (t++[(⟨0,⟨zA 10,zA 10⟩,-1,[]⟩:Rule)]) i).outs)]))),.cells true 23 (fh .i64 ((gx (u++[(⟨0,⟨zA 10,zA 10⟩,-1,[]⟩:Rule)]) i2).prio) :: ((((gx (u++[(⟨0,⟨zA 10,zA 10⟩,-1,[]⟩:Rule)]) i2).mat).mask).l.map (fh .i64)++((((gx (u++[(⟨0,⟨zA 10,zA 10⟩,-1,[]⟩:Rule)]) i2).mat).bits).l.map (fh .i64)++[fh .i64 ((gx (u++[(⟨0,⟨zA 10,zA 10⟩,-1,[]⟩:Rule)]) i2).step),za3 ((gx (u++[(⟨0,⟨zA 10,zA 10⟩,-1,[]⟩:Rule)]) i2).outs)]))),.gone,.cells false (rb.2*20) (vecC ePat rb.1)]),(lPat ac,stL [.cells true 10 ((zA 10).l.map (fh .i64)),.gone,.gone,.gone,.cells true 10 (x3.l.map (fh .i64)),.cells true 1 [.bool x4],.cells true 23 (fh .i64 ((gx (t++[(⟨0,⟨zA 10,zA 10⟩,-1,[]⟩:Rule)]) i).prio) :: ((((gx (t++[(⟨0,⟨zA 10,zA 10⟩,-1,[]⟩:Rule)]) i).mat).mask).l.map (fh .i64)++((((gx (t++[(⟨0,⟨zA 10,zA 10⟩,-1,[]⟩:Rule)]) i).mat).bits).l.map (fh .i64)++[fh .i64 ((gx (t++[(⟨0,⟨zA 10,zA 10⟩,-1,[]⟩:Rule)]) i).step),za3 ((gx (t++[(⟨0,⟨zA 10,zA 10⟩,-1,[]⟩:Rule)]) i).outs)]))),.cells true 23 (fh .i64 ((gx (u++[(⟨0,⟨zA 10,zA 10⟩,-1,[]⟩:Rule)]) i2).prio) :: ((((gx (u++[(⟨0,⟨zA 10,zA 10⟩,-1,[]⟩:Rule)]) i2).mat).mask).l.map (fh .i64)++((((gx (u++[(⟨0,⟨zA 10,zA 10⟩,-1,[]⟩:Rule)]) i2).mat).bits).l.map (fh .i64)++[fh .i64 ((gx (u++[(⟨0,⟨zA 10,zA 10⟩,-1,[]⟩:Rule)]) i2).step),za3 ((gx (u++[(⟨0,⟨zA 10,zA 10⟩,-1,[]⟩:Rule)]) i2).outs)]))),.gone,.cells false (rb.2*20) (vecC ePat rb.1)]),(.tup [.agg (az.1.l.map (fh .i64)),.bool az.2],stL [.cells true 10 ((zA 10).l.map (fh .i64)),.gone,.gone,.gone,.cells true 10 (x3.l.map (fh .i64)),.cells true 1 [.bool x4],.cells true 23 (fh .i64 ((gx (t++[(⟨0,⟨zA 10,zA 10⟩,-1,[]⟩:Rule)]) i).prio) :: ((((gx (t++[(⟨0,⟨zA 10,zA 10⟩,-1,[]⟩:Rule)]) i).mat).mask).l.map (fh .i64)++((((gx (t++[(⟨0,⟨zA 10,zA 10⟩,-1,[]⟩:Rule)]) i).mat).bits).l.map (fh .i64)++[fh .i64 ((gx (t++[(⟨0,⟨zA 10,zA 10⟩,-1,[]⟩:Rule)]) i).step),za3 ((gx (t++[(⟨0,⟨zA 10,zA 10⟩,-1,[]⟩:Rule)]) i).outs)]))),.cells true 23 (fh .i64 ((gx (u++[(⟨0,⟨zA 10,zA 10⟩,-1,[]⟩:Rule)]) i2).prio) :: ((((gx (u++[(⟨0,⟨zA 10,zA 10⟩,-1,[]⟩:Rule)]) i2).mat).mask).l.map (fh .i64)++((((gx (u++[(⟨0,⟨zA 10,zA 10⟩,-1,[]⟩:Rule)]) i2).mat).bits).l.map (fh .i64)++[fh .i64 ((gx (u++[(⟨0,⟨zA 10,zA 10⟩,-1,[]⟩:Rule)]) i2).step),za3 ((gx (u++[(⟨0,⟨zA 10,zA 10⟩,-1,[]⟩:Rule)]) i2).outs)]))),.gone,.cells false (rb.2*20) (vecC ePat rb.1)])] [.cells true 10 ((zA 10).l.map (fh .i64)),.gone,.gone,.gone,.cells true 10 (x3.l.map (fh .i64)),.cells true 1 [.bool x4],.cells true 23 (fh .i64 ((gx (t++[(⟨0,⟨zA 10,zA 10⟩,-1,[]⟩:Rule)]) i).prio) :: ((((gx (t++[(⟨0,⟨zA 10,zA 10⟩,-1,[]⟩:Rule)]) i).mat).mask).l.map (fh .i64)++((((gx (t++[(⟨0,⟨zA 10,zA 10⟩,-1,[]⟩:Rule)]) i).mat).bits).l.map (fh .i64)++[fh .i64 ((gx (t++[(⟨0,⟨zA 10,zA 10⟩,-1,[]⟩:Rule)]) i).step),za3 ((gx (t++[(⟨0,⟨zA 10,zA 10⟩,-1,[]⟩:Rule)]) i).outs)]))),.cells true 23 (fh .i64 ((gx (u++[(⟨0,⟨zA 10,zA 10⟩,-1,[]⟩:Rule)]) i2).prio) :: ((((gx (u++[(⟨0,⟨zA 10,zA 10⟩,-1,[]⟩:Rule)]) i2).mat).mask).l.map (fh .i64)++((((gx (u++[(⟨0,⟨zA 10,zA 10⟩,-1,[]⟩:Rule)]) i2).mat).bits).l.map (fh .i64)++[fh .i64 ((gx (u++[(⟨0,⟨zA 10,zA 10⟩,-1,[]⟩:Rule)]) i2).step),za3 ((gx (u++[(⟨0,⟨zA 10,zA 10⟩,-1,[]⟩:Rule)]) i2).outs)]))),.gone,.cells false (rb.2*20) (vecC ePat rb.1),.cells true 10 (az.1.l.map (fh .i64))] (fun h=>h 4=.ptr 0 0 10/\h 8=zae (u++[(⟨0,⟨zA 10,zA 10⟩,-1,[]⟩:Rule)])/\h 9=.ptr 4 0 10/\h 10=.ptr 5 0 1/\h 11=.fn 75 [] [.ptr 5 0 1,.ptr 4 0 10]/\h 12=.fn 77 [zae (t++[(⟨0,⟨zA 10,zA 10⟩,-1,[]⟩:Rule)])] []/\h 13=.fn 77 [zae (u++[(⟨0,⟨zA 10,zA 10⟩,-1,[]⟩:Rule)])] []/\h 14=.int .i64 i/\h 15=.ptr 6 0 23/\h 20=.ptr 10 0 10/\h 21=.bool az.2/\h 38=zae (t++[(⟨0,⟨zA 10,zA 10⟩,-1,[]⟩:Rule)])/\h 39=.int .i64 ((t++[(⟨0,⟨zA 10,zA 10⟩,-1,[]⟩:Rule)]).length:Int)/\h 40=.int .i64 i/\h 45=zae (u++[(⟨0,⟨zA 10,zA 10⟩,-1,[]⟩:Rule)])/\h 46=.int .i64 ((u++[(⟨0,⟨zA 10,zA 10⟩,-1,[]⟩:Rule)]).length:Int)/\h 47=.int .i64 i2) (f3 hh c12 (f3 c14 c18 (f3 (zgg ePat ac) (zbt (f:=ePat) (e:=20) (fun x=>za1 x) ac) (zet (f:=ePat) (fun x=>zn0 x) ac)))) trivial ?_ ?_
      .exact ⟨car [9] (zg8 ax hx k (t++[(⟨0,⟨zA 10,zA 10⟩,-1,[]⟩:Rule)]) i rb e15),gd (i7 (zhy ax hx k (u++[(⟨0,⟨zA 10,zA 10⟩,-1,[]⟩:Rule)]) i2 ac e16 ) (by first|rfl|simp only [c12,c14])),(by have q:=gd (Pure.lend (S:=stL [.cells true 10 ((zA 10).l.map (fh .i64)),.gone,.gone,.gone,.cells true 10 (x3.l.map (fh .i64)),.cells true 1 [.bool x4],.cells true 23 (fh .i64 ((gx (t++[(⟨0,⟨zA 10,zA 10⟩,-1,[]⟩:Rule)]) i).prio) :: ((((gx (t++[(⟨0,⟨zA 10,zA 10⟩,-1,[]⟩:Rule)]) i).mat).mask).l.map (fh .i64)++((((gx (t++[(⟨0,⟨zA 10,zA 10⟩,-1,[]⟩:Rule)]) i).mat).bits).l.map (fh .i64)++[fh .i64 ((gx (t++[(⟨0,⟨zA 10,zA 10⟩,-1,[]⟩:Rule)]) i).step),za3 ((gx (t++[(⟨0,⟨zA 10,zA 10⟩,-1,[]⟩:Rule)]) i).outs)]))),.cells true 23 (fh .i64 ((gx (u++[(⟨0,⟨zA 10,zA 10⟩,-1,[]⟩:Rule)]) i2).prio) :: ((((gx (u++[(⟨0,⟨zA 10,zA 10⟩,-1,[]⟩:Rule)]) i2).mat).mask).l.map (fh .i64)++((((gx (u++[(⟨0,⟨zA 10,zA 10⟩,-1,[]⟩:Rule)]) i2).mat).bits).l.map (fh .i64)++[fh .i64 ((gx (u++[(⟨0,⟨zA 10,zA 10⟩,-1,[]⟩:Rule)]) i2).step),za3 ((gx (u++[(⟨0,⟨zA 10,zA 10⟩,-1,[]⟩:Rule)]) i2).outs)]))),.gone,.cells false (rb.2*20) (vecC ePat rb.1)]) (args:=[ePat af.1,.arr 9 20 0 rb.2 rb.2 (rb.2*20)]) (zma ax hx k af.1 rb.1 az e20 ) (fd (Or.inl rfl) (fd (zsn (fun x=>za1 x) (by decide) (by rfl) g19) (trivial))) (by first|rfl | (simp only [tupT,T.flat,T.flatL,zuv,zix,gc];done)));(try simp only [c12,c14] at q);first|exact q | (simp only [jm,m8,zaw] at q ⊢;exact q)),trivial⟩
      clear hh h;intro h hh;cases H4;exact ce hh ⟨kq hh,rfl⟩
     clear hh h;rintro h bs ⟨hh,rfl⟩;apply fg;refine rk [4,8,9,10,11,12,13,14,15,20,38,39,40,45,46,47,76] [] (f3 hh c12 c14) fun h hh=>?_;rcases isb H3 with ⟨c23,H3⟩|⟨c23,H3⟩;rotate_left
     .skip;refine cf (f2 hh c23) ?_;refine sk ?_;refine rk [4,8,9,10,11,12,13,14,15,38,39,40,45,46,47] [] (f3 hh c12 (f2 c14 c23)) fun h hh=>?_;exact rd m hh ⟨(fi.wrap (i2+1)),x3,x4,H3,kq hh,rfl⟩
     refine ct (f2 hh c23) ?_;obtain ⟨rb2,e24,H3⟩:=zab H3;refine rkc [4,8,9,10,11,12,13,14,15,38,39,40,45,46,47] [] [(.tup [],stL [.cells true 10 ((zA 10).l.map (fh .i64)),.gone,.gone,.gone,.cells true 10 (rb2.2.l.map (fh .i64)),.cells true 1 [.bool rb2.1],.cells true 23 (fh .i64 ((gx (t++[(⟨0,⟨zA 10,zA 10⟩,-1,[]⟩:Rule)]) i).prio) :: ((((gx (t++[(⟨0,⟨zA 10,zA 10⟩,-1,[]⟩:Rule)]) i).mat).mask).l.map (fh .i64)++((((gx (t++[(⟨0,⟨zA 10,zA 10⟩,-1,[]⟩:Rule)]) i).mat).bits).l.map (fh .i64)++[fh .i64 ((gx (t++[(⟨0,⟨zA 10,zA 10⟩,-1,[]⟩:Rule)]) i).step),za3 ((gx (t++[(⟨0,⟨zA 10,zA 10⟩,-1,[]⟩:Rule)]) i).outs)]))),.cells true 23 (fh .i64 ((gx (u++[(⟨0,⟨zA 10,zA 10⟩,-1,[]⟩:Rule)]) i2).prio) :: ((((gx (u++[(⟨0,⟨zA 10,zA 10⟩,-1,[]⟩:Rule)]) i2).mat).mask).l.map (fh .i64)++((((gx (u++[(⟨0,⟨zA 10,zA 10⟩,-1,[]⟩:Rule)]) i2).mat).bits).l.map (fh .i64)++[fh .i64 ((gx (u++[(⟨0,⟨zA 10,zA 10⟩,-1,[]⟩:Rule)]) i2).step),za3 ((gx (u++[(⟨0,⟨zA 10,zA 10⟩,-1,[]⟩:Rule)]) i2).outs)]))),.gone,.cells false (s_4.2.2.1*20) (vecC ePat s_4.2.1),.cells true 10 (s_4.2.2.2.l.map (fh .i64))])] (f3 hh c12 (f2 c14 c23)) ?_ ?_
     .exact ⟨ca [5,4] (zoo ax hx k s_4.2.2.2 x4 x3 rb2 e24),trivial⟩
     clear hh h;intro h hh;refine rk [4,8,9,10,11,12,13,14,15,38,39,40,45,46,47] [] (f3 hh c12 (f2 c14 c23)) fun h hh=>?_;exact rd m hh ⟨(fi.wrap (i2+1)),rb2.2,rb2.1,H3,kq hh,rfl⟩
    refine ct (f2 hh c12) ?_;refine xk ?_;refine rk [4,8,9,10,11,12,13,14,15,38,39,40,45,46,47] [] (f2 hh c12) fun h hh=>?_;exact rd m hh ⟨(fi.wrap (i2+1)),x3,x4,H3,kq hh,rfl⟩
   clear hh h;rintro h bs ⟨hh,rfl⟩;cases H2;exact ce hh ⟨kq hh,rfl⟩
  clear hh h;rintro h bs ⟨hh,rfl⟩;refine rk [4,8,9,10,11,12,13,38,39,40] [] hh fun h hh=>?_;exact rd m hh ⟨(fi.wrap (i+1)),s_2.1,s_2.2,H1,kq hh,rfl⟩
 clear hh h;rintro h bs ⟨hh,rfl⟩;apply fg;refine ds 3 [(4,some 0),(10,some 5)] [4,5] [] [] [] hh trivial trivial fun h hh=>?_;cases H;exact rtc hh
def ze2 (k:Nat) (i:Int):Nat->Int->Int->Option Int
 |0,_,_=>none
 |m+1,v_,k_=>(if 0<=i/\0<16 then (if k_<(i % 16) then (if 0<=v_/\0<2 then ze2 k i m (fi.wrap (v_ / 2)) (fi.wrap (k_+1)) else none) else some v_) else none)
def zji (k:Nat) (i:Int):Option Int:=((ze2 k i k 32768 0:Option Int).bind fun s_=>some s_)
theorem zpe (ax:Axs) (hx:NoAx ax) (k:Nat) (i:Int) (v:Int) (H:zji k i=some v):Pure Try.prog (EE ax) [] 73 [.int .i64 i] (.int .i64 v):=by
 rw [zji] at H;refine en [.tmp 2] 14 [0] (hx.no _ (by decide)) (fn73 ax) ?_;intro h hh;apply fg;refine rk [0] [] hh fun h hh=>?_;apply fg;refine rk [0,3] [] hh fun h hh=>?_;repeat apply fg
 refine rk [0,3,4] [] hh fun h hh=>?_;obtain ⟨s_,H1,H⟩:=zab H;refine cu [3] 0 (fun h bs=>(h 3=.int .i64 s_)/\bs=[]) ?_ ?_
 .skip;apply gl;refine jj [0,3,4] (fun m h bs=>∃ (v_:Int) (k_:Int),ze2 k i m v_ k_=some s_/\(h 0=.int .i64 i/\h 3=.int .i64 v_/\h 4=.int .i64 k_)/\bs=[]) ?_ k _ _ ?_;rotate_left
  .exact ⟨32768,0,H1,kq hh,rfl⟩
  clear hh h H1;rintro m h bs ⟨v_,k_,H1,hh,rfl⟩;rcases m with _|m
  .rw [ze2] at H1;cases H1
  rw [ze2] at H1;obtain ⟨g1,H1⟩:=isg H1;repeat apply fg
  refine rk [0,3,4,8] [] hh fun h hh=>?_;rcases isp H1 with ⟨c2,H1⟩|⟨c2,H1⟩;rotate_left
  .skip;refine cf (f2 hh (zAb c2)) ?_;refine xk ?_;cases H1;exact ce hh ⟨kq hh,rfl⟩
  refine ct (f2 hh (zAa c2)) ?_;refine sk ?_;apply fg;apply gl;obtain ⟨g3,H1⟩:=isg H1;refine rk [0,3,4] [] hh fun h hh=>?_;refine rk [0,3,4] [] hh fun h hh=>?_;exact rd m hh ⟨(fi.wrap (v_ / 2)),(fi.wrap (k_+1)),H1,kq hh,rfl⟩
 clear hh h;rintro h bs ⟨hh,rfl⟩;apply fg;refine rk [2] [] hh fun h hh=>?_;cases H;exact rt hh
def zdl (k:Nat) (h_:Ar 10) (i:Int):Option Int:=(if 0<=i/\0<16 then (if (0:Int)<=(fi.wrap (i / 16))/\(fi.wrap (i / 16))<(10:Int) then ((zji k i).bind fun aq=>(if (0:Int)<=(gx h_.l (fi.wrap (i / 16)))/\0<aq then (if (0:Int)<=(fi.wrap ((gx h_.l (fi.wrap (i / 16))) / aq))/\0<2 then some ((fi.wrap ((gx h_.l (fi.wrap (i / 16))) / aq)) % 2) else none) else none)) else none) else none)
theorem zbk (ax:Axs) (hx:NoAx ax) (k:Nat) (h_:Ar 10) (i:Int) (v:Int) (H:zdl k h_ i=some v):Pure Try.prog (EE ax) [] 56 [.agg (h_.l.map (fh .i64)),.int .i64 i] (.int .i64 v):=by
 rw [zdl] at H;refine en [.tmp 4] 13 [0,1] (hx.no _ (by decide)) (fn56 ax) ?_;intro h hh;apply fg;refine rk [1,2] [] hh fun h hh=>?_;obtain ⟨g1,H⟩:=isg H;obtain ⟨g2,H⟩:=isg H;obtain ⟨aq,e3,H⟩:=zab H;obtain ⟨g4,H⟩:=isg H;obtain ⟨g5,H⟩:=isg H;apply fg;refine dk 6 [4] [.int .i64 aq] [] [] (f2 hh (arIx h_ g2)) ?_ trivial ?_
 .exact ⟨(zpe ax hx k i aq e3 ).call _,trivial⟩
 clear hh h;intro h hh;cases H;exact rt hh
def zby (k:Nat) (h_:Ar 10):Nat->Int->Option (Bool ⊕ Unit)
 |0,_=>none
 |m+1,i=>(if i<10 then (if 0<=i/\i<(10:Int) then (if (gx h_.l i)<0 then some (.inl false) else (if 65535<(gx h_.l i) then some (.inl false) else zby k h_ m (fi.wrap (i+1)))) else none) else some (.inr ()))
def zfd (k:Nat) (h_:Ar 10):Option Bool:=((zby k h_ k 0:Option (Bool ⊕ Unit)).bind fun o=>ks (fun r=>some r) (fun s_=>some true) o)
theorem zk8 (ax:Axs) (hx:NoAx ax) (k:Nat) (h_:Ar 10) (v:Bool) (H:zfd k h_=some v):Pure Try.prog (EE ax) [] 24 [.agg (h_.l.map (fh .i64))] (.bool v):=by
 rw [zfd] at H;refine en [.tmp 2] 18 [0] (hx.no _ (by decide)) (fn24 ax) ?_;intro h hh;apply fg;refine rk [1] [] hh fun h hh=>?_;repeat apply fg
 refine rk [1,3] [] hh fun h hh=>?_;obtain ⟨o,H1,H⟩:=zab H;refine cu [] 1 (fun h bs=>∃ s_:Unit,o=.inr s_/\(True)/\bs=[.cells true 10 (h_.l.map (fh .i64))]) ?_ ?_
 .skip;apply gl;refine jj [1,3] (fun m h bs=>∃ (i:Int),zby k h_ m i=some o/\(h 1=.ptr 0 0 10/\h 3=.int .i64 i)/\bs=[.cells true 10 (h_.l.map (fh .i64))]) ?_ k _ _ ?_;rotate_left
  .exact ⟨0,H1,kq hh,rfl⟩
  clear hh h H1;rintro m h bs ⟨i,H1,hh,rfl⟩;rcases m with _|m
  .rw [zby] at H1;cases H1
  rw [zby] at H1;repeat apply fg
  refine rk [1,3,5] [] hh fun h hh=>?_;rcases isp H1 with ⟨c1,H1⟩|⟨c1,H1⟩;rotate_left
  .skip;refine cf (f2 hh (zAb c1)) ?_;refine xk ?_;cases H1;exact ce hh ⟨_,rfl,kq hh,rfl⟩
  refine ct (f2 hh (zAa c1)) ?_;refine sk ?_;apply fg;apply gl;obtain ⟨g2,H1⟩:=isg H1;rcases isp H1 with ⟨c3,H1⟩|⟨c3,H1⟩;rotate_left
  .skip;apply fg;refine rk [1,3,17] [] (f3 hh (zAb c3) (arIx h_ g2)) fun h hh=>?_;rcases isp H1 with ⟨c4,H1⟩|⟨c4,H1⟩;rotate_left
   .skip;refine cf (f2 hh (zAb c4)) ?_;refine sk ?_;refine rk [1,3] [] hh fun h hh=>?_;exact rd m hh ⟨(fi.wrap (i+1)),H1,kq hh,rfl⟩
   refine ct (f2 hh (zAa c4)) ?_;apply fg;refine rk [2] [] hh fun h hh=>?_;cases H1;obtain rfl:=sinl H;exact rt hh
  apply fg;refine rk [1,3,17] [] (f3 hh (zAa c3) (arIx h_ g2)) fun h hh=>?_;refine ct hh ?_;apply fg;refine rk [2] [] hh fun h hh=>?_;cases H1;obtain rfl:=sinl H;exact rt hh
 clear hh h;rintro h bs ⟨s_,rfl,hh,rfl⟩;replace H:=sinr H;apply fg;refine rk [2] [] hh fun h hh=>?_;cases H;exact rt hh
def zdb (k:Nat) (b:Ar 10) (m_:Ar 10):Nat->Int->Option (Bool ⊕ Unit)
 |0,_=>none
 |m+1,i=>(if i<10 then (if 0<=i/\i<(10:Int) then (if (iAnd .i64 (gx b.l i) (gx m_.l i))≠(gx b.l i) then some (.inl false) else zdb k b m_ m (fi.wrap (i+1))) else none) else some (.inr ()))
def zjo (k:Nat) (b:Ar 10) (m_:Ar 10):Option Bool:=((zdb k b m_ k 0:Option (Bool ⊕ Unit)).bind fun o=>ks (fun r=>some r) (fun s_=>some true) o)
theorem zvq (ax:Axs) (hx:NoAx ax) (k:Nat) (b:Ar 10) (m_:Ar 10) (v:Bool) (H:zjo k b m_=some v):Pure Try.prog (EE ax) [] 79 [.agg (b.l.map (fh .i64)),.agg (m_.l.map (fh .i64))] (.bool v):=by
 rw [zjo] at H;refine en [.tmp 4] 21 [0,1] (hx.no _ (by decide)) (fn79 ax) ?_;intro h hh;apply fg;refine rk [2,3] [] hh fun h hh=>?_;repeat apply fg
 refine rk [2,3,5] [] hh fun h hh=>?_;obtain ⟨o,H1,H⟩:=zab H;refine cu [] 2 (fun h bs=>∃ s_:Unit,o=.inr s_/\(True)/\bs=[.cells true 10 (b.l.map (fh .i64)),.cells true 10 (m_.l.map (fh .i64))]) ?_ ?_
 .skip;apply gl;refine jj [2,3,5] (fun m h bs=>∃ (i:Int),zdb k b m_ m i=some o/\(h 2=.ptr 0 0 10/\h 3=.ptr 1 0 10/\h 5=.int .i64 i)/\bs=[.cells true 10 (b.l.map (fh .i64)),.cells true 10 (m_.l.map (fh .i64))]) ?_ k _ _ ?_;rotate_left
  .exact ⟨0,H1,kq hh,rfl⟩
  clear hh h H1;rintro m h bs ⟨i,H1,hh,rfl⟩;rcases m with _|m
  .rw [zdb] at H1;cases H1
  rw [zdb] at H1;repeat apply fg
  refine rk [2,3,5,7] [] hh fun h hh=>?_;rcases isp H1 with ⟨c1,H1⟩|⟨c1,H1⟩;rotate_left
  .skip;refine cf (f2 hh (zAb c1)) ?_;refine xk ?_;cases H1;exact ce hh ⟨_,rfl,kq hh,rfl⟩
  refine ct (f2 hh (zAa c1)) ?_;refine sk ?_;apply fg;apply gl;obtain ⟨g2,H1⟩:=isg H1;apply fg;refine dk 10 [2,3,5,20] [] [] [] (f3 hh (arIx b g2) (arIx m_ g2)) trivial trivial fun h hh=>?_;rcases isp H1 with ⟨c3,H1⟩|⟨c3,H1⟩;rotate_left
  .skip;refine cf (f2 hh (zAb c3)) ?_;refine sk ?_;refine rk [2,3,5] [] hh fun h hh=>?_;exact rd m hh ⟨(fi.wrap (i+1)),H1,kq hh,rfl⟩
  refine ct (f2 hh (zAa c3)) ?_;apply fg;refine rk [4] [] hh fun h hh=>?_;cases H1;obtain rfl:=sinl H;exact rt hh
 clear hh h;rintro h bs ⟨s_,rfl,hh,rfl⟩;replace H:=sinr H;apply fg;refine rk [4] [] hh fun h hh=>?_;cases H;exact rt hh
def zh6 (k:Nat) (p:Pat):Option Bool:=((zfd k p.mask).bind fun dy=>((zfd k p.bits).bind fun dz=>(if dy=true then (if dz=true then ((zjo k p.bits p.mask).bind fun d6=>some d6) else some false) else some false)))
theorem zlp (ax:Axs) (hx:NoAx ax) (k:Nat) (p:Pat) (v:Bool) (H:zh6 k p=some v):Pure Try.prog (EE ax) [] 61 [ePat p] (.bool v):=by
 rw [zh6] at H;refine en [.tmp 2] 22 [0] (hx.no _ (by decide)) (fn61 ax) ?_;intro h hh;apply fg;refine rk [1] [] hh fun h hh=>?_;obtain ⟨dy,e1,H⟩:=zab H;apply fg;refine rkp [1,3] [] [.bool dy] hh ?_ ?_
 .exact ⟨gd ((zk8 ax hx k p.mask dy e1 ).call _),trivial⟩
 clear hh h;intro h hh;obtain ⟨dz,e2,H⟩:=zab H;apply fg;refine rkp [1,3,4] [] [.bool dz] hh ?_ ?_
 .exact ⟨gd ((zk8 ax hx k p.bits dz e2 ).call _),trivial⟩
 clear hh h;intro h hh;rcases isb H with ⟨c3,H⟩|⟨c3,H⟩;rotate_left
 .skip;apply fg;refine rk [2] [] (f2 hh c3) fun h hh=>?_;cases H;exact rt hh
 rcases isb H with ⟨c4,H⟩|⟨c4,H⟩;rotate_left
 .skip;apply fg;refine rk [2] [] (f3 hh c3 c4) fun h hh=>?_;cases H;exact rt hh
 obtain ⟨d6,e5,H⟩:=zab H;apply fg;refine rkp [2] [] [.bool d6] (f3 hh c3 c4) ?_ ?_
 .exact ⟨gd (i7 (zvq ax hx k p.bits p.mask d6 e5 ) (by first|rfl|simp only [c3,c4])),trivial⟩
 clear hh h;intro h hh;cases H;exact rt hh
def zhl (k:Nat) (m_:Pat):Option Bool:=((zh6 k (⟨m_.mask,m_.bits⟩:Pat)).bind fun bk=>some bk)
theorem zr7 (ax:Axs) (hx:NoAx ax) (k:Nat) (m_:Pat) (v:Bool) (H:zhl k m_=some v):Pure Try.prog (EE ax) [] 62 [ePat m_] (.bool v):=by
 rw [zhl] at H;refine en [.tmp 2] 9 [0] (hx.no _ (by decide)) (fn62 ax) ?_;intro h hh;apply fg;refine rk [1] [] hh fun h hh=>?_;obtain ⟨bk,e1,H⟩:=zab H;apply fg;refine rkp [2] [] [.bool bk] hh ?_ ?_
 .exact ⟨gd ((zlp ax hx k (⟨m_.mask,m_.bits⟩:Pat) bk e1 ).call _),trivial⟩
 clear hh h;intro h hh;cases H;exact rt hh
def zd4 (k:Nat) (t:List Rule) (k_:Int):Nat->Int->(List Pat)->Nat->Option (List Pat×Nat)
 |0,_,_,_=>none
 |m+1,i,l,n=>(if i<k_ then (if 0<=i/\i<(t.length:Int) then (if (n+1)*161<=1000000000 then zd4 k t k_ m (fi.wrap (i+1)) (l++[(gx t i).mat]) (n+1) else none) else none) else some (l,n))
def zgz (k:Nat) (t:List Rule) (k_:Int):Option (List Pat):=((zd4 k t k_ k 0 [] 0:Option (List Pat×Nat)).bind fun s_=>(if s_.1.length=s_.2 then some s_.1 else none))
theorem zkg (ax:Axs) (hx:NoAx ax) (k:Nat) (t:List Rule) (k_:Int) (v:List Pat) (H:zgz k t k_=some v):Pure Try.prog (EE ax) [] 44 [zae t,.int .i64 k_] (lPat v):=by
 rw [zgz] at H;refine en [.tmp 4] 21 [0,1] (hx.no _ (by decide)) (fn44 ax) ?_;intro h hh;apply fg;refine rk [0,1] [] hh fun h hh=>?_;apply fg;refine rk [0,1,5] [] hh fun h hh=>?_;refine vk 5 20 [0,1,5] hh fun h hh=>?_;repeat apply fg
 refine rk [0,1,5,6] [] hh fun h hh=>?_;obtain ⟨s_,H1,H⟩:=zab H;refine cu [5] 1 (fun h bs=>(h 5=.arr 0 20 0 s_.2 s_.2 (s_.2*20))/\bs=[.cells false (s_.2*20) (vecC ePat s_.1)]) ?_ ?_
 .skip;apply gl;refine jj [0,1,5,6] (fun m h bs=>∃ (i:Int) (l:List Pat) (n:Nat),zd4 k t k_ m i l n=some s_/\(h 0=zae t/\h 1=.int .i64 k_/\h 5=.arr 0 20 0 n n (n*20)/\h 6=.int .i64 i)/\bs=[.cells false (n*20) (vecC ePat l)]) ?_ k _ _ ?_;rotate_left
  .exact ⟨0,[],0,H1,kq hh,rfl⟩
  clear hh h H1;rintro m h bs ⟨i,l,n,H1,hh,rfl⟩;rcases m with _|m
  .rw [zd4] at H1;cases H1
  rw [zd4] at H1;repeat apply fg
  refine rk [0,1,5,6,9] [] hh fun h hh=>?_;rcases isp H1 with ⟨c1,H1⟩|⟨c1,H1⟩;rotate_left
  .skip;refine cf (f2 hh (zAb c1)) ?_;refine xk ?_;cases H1;exact ce hh ⟨kq hh,rfl⟩
  refine ct (f2 hh (zAa c1)) ?_;refine sk ?_;apply fg;apply gl;obtain ⟨g2,H1⟩:=isg H1;obtain ⟨g3,H1⟩:=isg H1;refine rg [] [] [.cells false ((n+1)*20) (vecC ePat (l++[(gx t i).mat]))] (fun h=>h 0=zae t/\h 1=.int .i64 k_/\h 5=.arr 0 20 0 (n+1) (n+1) ((n+1)*20)/\h 6=.int .i64 i) (f3 hh (zag g2) ((show vecC ePat [(gx t i).mat]=((((gx t i).mat).mask).l.map (fh .i64)++((((gx t i).mat).bits).l.map (fh .i64))) from zdk.trans rfl))) trivial fun h hh=>?_;refine rk [0,1,5,6] [] hh fun h hh=>?_;exact rd m hh ⟨(fi.wrap (i+1)),(l++[(gx t i).mat]),(n+1),H1,kq hh,rfl⟩
 clear hh h;rintro h bs ⟨hh,rfl⟩;apply fg;refine rk [4] [] hh fun h hh=>?_;obtain ⟨g4,H⟩:=isg H;refine pe 4 (b:=0) (e:=20) (off:=0) (len:=s_.2) (cap:=s_.2) (M:=(s_.2*20)) (s_.1.map ePat) (kq hh) (by rfl) (by omega) (by omega) (by rw [gp];exact zc5 (fun x=>za1 x) g4) (fun t ht=>by obtain ⟨x,_,rfl⟩:=jo.1 ht;first|rfl|exact zf6 _|exact za1 _|exact zd0 _|exact zau _ | (rw [fq];rfl)) (by rw [fq]<;>exact g4) (by omega) ?_;rw [zec _ _ _ (by simp only [lzA]<;>omega)];simp only [scA];refine gk [4] hh fun h hh=>?_;cases H;exact rt hh
def zfi (k:Nat) (h_:Ar 10) (i:Int) (b:Int):Option (Ar 10):=(if 0<=i/\0<16 then (if (0:Int)<=(fi.wrap (i / 16))/\(fi.wrap (i / 16))<(10:Int) then ((zdl k h_ i).bind fun aj=>((zji k i).bind fun aq=>some (h_.set (fi.wrap (i / 16)) (fi.wrap ((gx h_.l (fi.wrap (i / 16)))+(fi.wrap ((fi.wrap (b - aj))*aq))))))) else none) else none)
theorem zfo (ax:Axs) (hx:NoAx ax) (k:Nat) (h_:Ar 10) (i:Int) (b:Int) (v:Ar 10) (H:zfi k h_ i b=some v):Pure Try.prog (EE ax) [] 57 [.agg (h_.l.map (fh .i64)),.int .i64 i,.int .i64 b] (.agg (v.l.map (fh .i64))):=by
 rw [zfi] at H;refine en [.cell 6 43] 24 [0,1,2] (hx.no _ (by decide)) (fn57 ax) ?_;intro h hh;apply fg;refine rk [1,2,3,6] [] hh fun h hh=>?_;obtain ⟨g1,H⟩:=isg H;obtain ⟨g2,H⟩:=isg H;obtain ⟨aj,e3,H⟩:=zab H;obtain ⟨aq,e4,H⟩:=zab H;apply fg;refine dk 13 [3,6] [.int .i64 aj,.int .i64 aq] [] [] (f3 hh (arIx h_ g2) (yoq (k:=.i64) h_ (fi.wrap ((gx h_.l (fi.wrap (i / 16)))+(fi.wrap ((fi.wrap (b - aj))*aq)))) g2)) ?_ trivial ?_
 .exact ⟨(zbk ax hx k h_ i aj e3 ).call _,(zpe ax hx k i aq e4 ).call _,trivial⟩
 clear hh h;intro h hh;apply fg;refine rk [6] [] hh fun h hh=>?_;cases H;exact rtc hh
def zfp (k:Nat) (q:Pat):Nat->Int->(Ar 10)->(Ar 10)->Option ((Pat×Bool) ⊕ (Ar 10×Ar 10))
 |0,_,_,_=>none
 |m+1,i,x,x2=>(if i<160 then ((zdl k q.mask i).bind fun aj=>(if aj=0 then zfp k q m (fi.wrap (i+1)) x x2 else ((((zdl k x i).bind fun av=>(if av=1 then ((zdl k x2 i).bind fun bn=>((zdl k q.bits i).bind fun d7=>some (decide (bn≠d7)))) else some false)):Option Bool).bind fun s_2=>(if s_2=true then some (.inl ((⟨zA 10,zA 10⟩:Pat),false)) else ((zfi k x i 1).bind fun ai=>((zdl k q.bits i).bind fun df=>((zfi k x2 i df).bind fun ar=>zfp k q m (fi.wrap (i+1)) ai ar))))))) else some (.inr (x,x2)))
def znv (k:Nat) (p:Pat) (q:Pat):Option (Pat×Bool):=((zfp k q k 0 p.mask p.bits:Option ((Pat×Bool) ⊕ (Ar 10×Ar 10))).bind fun o=>ks (fun r=>some r) (fun s_=>some ((⟨s_.1,s_.2⟩:Pat),true)) o)
theorem zte (ax:Axs) (hx:NoAx ax) (k:Nat) (p:Pat) (q:Pat) (v:Pat×Bool) (H:znv k p q=some v):Pure Try.prog (EE ax) [] 42 [ePat p,ePat q] (tupT [ePat v.1,.bool v.2]):=by
 rw [znv] at H;refine enN [.cell 4 56,.tmp 5] 48 [0,1] (hx.no _ (by decide)) (fn42 ax) ?_;intro h hh;apply fg;refine rk [2,3,4] [] hh fun h hh=>?_;repeat apply fg
 refine rk [2,3,4,6] [] hh fun h hh=>?_;obtain ⟨o,H1,H⟩:=zab H;refine cu [2,4] 3 (fun h bs=>∃ s_:Ar 10×Ar 10,o=.inr s_/\(h 2=.ptr 0 0 20/\h 4=.ptr 2 0 20)/\bs=[.cells true 20 (s_.1.l.map (fh .i64)++(s_.2.l.map (fh .i64))),.cells true 20 (q.mask.l.map (fh .i64)++(q.bits.l.map (fh .i64))),.cells true 20 ((zA 10).l.map (fh .i64)++((zA 10).l.map (fh .i64)))]) ?_ ?_
 .skip;apply gl;refine jj [2,3,4,6] (fun m h bs=>∃ (i:Int) (x:Ar 10) (x2:Ar 10),zfp k q m i x x2=some o/\(h 2=.ptr 0 0 20/\h 3=.ptr 1 0 20/\h 4=.ptr 2 0 20/\h 6=.int .i64 i)/\bs=[.cells true 20 (x.l.map (fh .i64)++(x2.l.map (fh .i64))),.cells true 20 (q.mask.l.map (fh .i64)++(q.bits.l.map (fh .i64))),.cells true 20 ((zA 10).l.map (fh .i64)++((zA 10).l.map (fh .i64)))]) ?_ k _ _ ?_;rotate_left
  .exact ⟨0,p.mask,p.bits,H1,kq hh,rfl⟩
  clear hh h H1;rintro m h bs ⟨i,x,x2,H1,hh,rfl⟩;rcases m with _|m
  .rw [zfp] at H1;cases H1
  rw [zfp] at H1;repeat apply fg
  refine rk [2,3,4,6,8] [] hh fun h hh=>?_;rcases isp H1 with ⟨c1,H1⟩|⟨c1,H1⟩;rotate_left
  .skip;refine cf (f2 hh (zAb c1)) ?_;refine xk ?_;cases H1;exact ce hh ⟨_,rfl,kq hh,rfl⟩
  refine ct (f2 hh (zAa c1)) ?_;refine sk ?_;apply fg;apply gl;obtain ⟨aj,e2,H1⟩:=zab H1;repeat apply fg
  refine rkp [2,3,4,6,15] [] [.int .i64 aj] hh ?_ ?_
  .exact ⟨gd ((zbk ax hx k q.mask i aj e2 ).call _),trivial⟩
  clear hh h;intro h hh;rcases isp H1 with ⟨c3,H1⟩|⟨c3,H1⟩;rotate_left
  .skip;refine cf (f2 hh (zAb c3)) ?_;refine sk ?_;obtain ⟨s_2,H2,H1⟩:=zab H1;repeat apply fg
   refine cu [2,3,4,6,31] 3 (fun h bs=>(h 2=.ptr 0 0 20/\h 3=.ptr 1 0 20/\h 4=.ptr 2 0 20/\h 6=.int .i64 i/\h 31=.bool s_2)/\bs=[.cells true 20 (x.l.map (fh .i64)++(x2.l.map (fh .i64))),.cells true 20 (q.mask.l.map (fh .i64)++(q.bits.l.map (fh .i64))),.cells true 20 ((zA 10).l.map (fh .i64)++((zA 10).l.map (fh .i64)))]) ?_ ?_
   .skip;obtain ⟨av,e4,H2⟩:=zab H2;rcases isp H2 with ⟨c5,H2⟩|⟨c5,H2⟩;rotate_left
    .skip;refine dk 12 [2,3,4,6,31] [.int .i64 av] [] [] (f2 hh (zAb c5)) ?_ trivial ?_
     .exact ⟨(zbk ax hx k x i av e4 ).call _,trivial⟩
     clear hh h;intro h hh;cases H2;exact ce hh ⟨kq hh,rfl⟩
    obtain ⟨bn,e6,H2⟩:=zab H2;obtain ⟨d7,e7,H2⟩:=zab H2;refine dk 12 [2,3,4,6,31] [.int .i64 av,.int .i64 bn] [] [(.int .i64 d7,stL [.cells true 20 (x.l.map (fh .i64)++(x2.l.map (fh .i64))),.cells true 20 (q.mask.l.map (fh .i64)++(q.bits.l.map (fh .i64))),.cells true 20 ((zA 10).l.map (fh .i64)++((zA 10).l.map (fh .i64)))])] (f2 hh (zAa c5)) ?_ ?_ ?_
    .exact ⟨(zbk ax hx k x i av e4 ).call _,(zbk ax hx k x2 i bn e6 ).call _,trivial⟩
    .exact ⟨gd ((zbk ax hx k q.bits i d7 e7 ).call _),trivial⟩
    clear hh h;intro h hh;cases H2;exact ce hh ⟨kq hh,rfl⟩
   clear hh h;rintro h bs ⟨hh,rfl⟩;rcases isb H1 with ⟨c8,H1⟩|⟨c8,H1⟩;rotate_left
   .skip;refine cf (f2 hh c8) ?_;refine sk ?_;obtain ⟨ai,e9,H1⟩:=zab H1;apply fg;refine rkc [2,3,4,6] [] [(.agg (ai.l.map (fh .i64)),stL [.cells true 20 (x.l.map (fh .i64)++(x2.l.map (fh .i64))),.cells true 20 (q.mask.l.map (fh .i64)++(q.bits.l.map (fh .i64))),.cells true 20 ((zA 10).l.map (fh .i64)++((zA 10).l.map (fh .i64)))])] (f2 hh c8) ?_ ?_
    .exact ⟨gd (i7 (zfo ax hx k x i 1 ai e9 ) (by first|rfl|simp only [c8])),trivial⟩
    clear hh h;intro h hh;obtain ⟨df,e10,H1⟩:=zab H1;obtain ⟨ar,e11,H1⟩:=zab H1;refine dk 7 [2,3,4,6] [.int .i64 df] [] [(.agg (ar.l.map (fh .i64)),stL [.cells true 20 (ai.l.map (fh .i64)++(x2.l.map (fh .i64))),.cells true 20 (q.mask.l.map (fh .i64)++(q.bits.l.map (fh .i64))),.cells true 20 ((zA 10).l.map (fh .i64)++((zA 10).l.map (fh .i64)))])] (f2 hh c8) ?_ ?_ ?_
    .exact ⟨i7 (zbk ax hx k q.bits i df e10 ) (by first|rfl|simp only [c8]),trivial⟩
    .exact ⟨gd (i7 (zfo ax hx k x2 i df ar e11 ) (by first|rfl|simp only [c8])),trivial⟩
    clear hh h;intro h hh;refine rk [2,3,4,6] [] (f2 hh c8) fun h hh=>?_;exact rd m hh ⟨(fi.wrap (i+1)),ai,ar,H1,kq hh,rfl⟩
   refine ct (f2 hh c8) ?_;apply fg;refine rk [4,5] [] (f2 hh c8) fun h hh=>?_;cases H1;obtain rfl:=sinl H;exact rtc hh
  refine ct (f2 hh (zAa c3)) ?_;refine xk ?_;refine rk [2,3,4,6] [] hh fun h hh=>?_;exact rd m hh ⟨(fi.wrap (i+1)),x,x2,H1,kq hh,rfl⟩
 clear hh h;rintro h bs ⟨s_,rfl,hh,rfl⟩;replace H:=sinr H;apply fg;refine rk [4,5] [] hh fun h hh=>?_;cases H;exact rtc hh
def zih (k:Nat) (p:Pat) (q:Pat):Option Bool:=((znv k p q).bind fun af=>some af.2)
theorem ztd (ax:Axs) (hx:NoAx ax) (k:Nat) (p:Pat) (q:Pat) (v:Bool) (H:zih k p q=some v):Pure Try.prog (EE ax) [] 91 [ePat p,ePat q] (.bool v):=by
 rw [zih] at H;refine en [.tmp 4] 14 [0,1] (hx.no _ (by decide)) (fn91 ax) ?_;intro h hh;apply fg;refine rk [2,3] [] hh fun h hh=>?_;obtain ⟨af,e1,H⟩:=zab H;apply fg;refine rkc [6] [] [(.tup [ePat af.1,.bool af.2],stL [.cells true 20 (p.mask.l.map (fh .i64)++(p.bits.l.map (fh .i64))),.cells true 20 (q.mask.l.map (fh .i64)++(q.bits.l.map (fh .i64)))])] hh ?_ ?_
 .exact ⟨gd ((zte ax hx k p q af e1 ).call _),trivial⟩
 clear hh h;intro h hh;apply fg;refine rk [4] [] hh fun h hh=>?_;cases H;exact rt hh
def zdv (k:Nat) (q:Pat):Nat->Int->(Ar 10)->(Ar 10)->(List Pat)->Nat->Option (Ar 10×Ar 10×List Pat×Nat)
 |0,_,_,_,_,_=>none
 |m+1,i,x,x2,l,n=>(if i<160 then ((((zdl k q.mask i).bind fun aj=>(if aj=0 then some true else ((zdl k x i).bind fun av=>some (decide (av=1))))):Option Bool).bind fun s_2=>(if s_2=true then zdv k q m (fi.wrap (i+1)) x x2 l n else ((zdl k q.bits i).bind fun bn=>((zfi k x i 1).bind fun ai=>((zfi k x2 i (fi.wrap (1 - bn))).bind fun ar=>(if (n+1)*161<=1000000000 then ((zfi k ar i bn).bind fun dh=>zdv k q m (fi.wrap (i+1)) ai dh (l++[(⟨ai,ar⟩:Pat)]) (n+1)) else none)))))) else some (x,x2,l,n))
def zk9 (k:Nat) (p:Pat) (q:Pat):Option (List Pat):=((zih k p q).bind fun bh=>(if bh=true then ((zdv k q k 0 p.mask p.bits [] 0:Option (Ar 10×Ar 10×List Pat×Nat)).bind fun s_=>(if s_.2.2.1.length=s_.2.2.2 then some s_.2.2.1 else none)) else some [p]))
theorem zpf (ax:Axs) (hx:NoAx ax) (k:Nat) (p:Pat) (q:Pat) (v:List Pat) (H:zk9 k p q=some v):Pure Try.prog (EE ax) [] 80 [ePat p,ePat q] (lPat v):=by
 rw [zk9] at H;refine en [.tmp 4] 59 [0,1] (hx.no _ (by decide)) (fn80 ax) ?_;intro h hh;apply fg;refine rk [2,3] [] hh fun h hh=>?_;obtain ⟨bh,e1,H⟩:=zab H;apply fg;refine rkp [2,3,5] [] [.bool bh] hh ?_ ?_
 .exact ⟨gd ((ztd ax hx k p q bh e1 ).call _),trivial⟩
 clear hh h;intro h hh;repeat apply fg
 refine rk [2,3,13] [] hh fun h hh=>?_;rcases isb H with ⟨c2,H⟩|⟨c2,H⟩;rotate_left
 .skip;refine ct (f2 hh c2) ?_;apply fg;refine rk [4] [] (f2 hh c2) fun h hh=>?_;cases H;exact rt hh
 refine cf (f2 hh c2) ?_;refine sk ?_;apply fg;refine rk [2,3,6] [] (f2 hh c2) fun h hh=>?_;refine vk 6 20 [2,3,6] hh fun h hh=>?_;repeat apply fg
 refine rk [2,3,6,7] [] (f2 hh c2) fun h hh=>?_;obtain ⟨s_,H1,H⟩:=zab H;refine cu [6] 3 (fun h bs=>(h 6=.arr 2 20 0 s_.2.2.2 s_.2.2.2 (s_.2.2.2*20))/\bs=[.cells true 20 (s_.1.l.map (fh .i64)++(s_.2.1.l.map (fh .i64))),.cells true 20 (q.mask.l.map (fh .i64)++(q.bits.l.map (fh .i64))),.cells false (s_.2.2.2*20) (vecC ePat s_.2.2.1)]) ?_ ?_
 .skip;apply gl;refine jj [2,3,6,7] (fun m h bs=>∃ (i:Int) (x:Ar 10) (x2:Ar 10) (l:List Pat) (n:Nat),zdv k q m i x x2 l n=some s_/\(h 2=.ptr 0 0 20/\h 3=.ptr 1 0 20/\h 6=.arr 2 20 0 n n (n*20)/\h 7=.int .i64 i)/\bs=[.cells true 20 (x.l.map (fh .i64)++(x2.l.map (fh .i64))),.cells true 20 (q.mask.l.map (fh .i64)++(q.bits.l.map (fh .i64))),.cells false (n*20) (vecC ePat l)]) ?_ k _ _ ?_;rotate_left
  .exact ⟨0,p.mask,p.bits,[],0,H1,kq hh,rfl⟩
  clear hh h H1;rintro m h bs ⟨i,x,x2,l,n,H1,hh,rfl⟩;rcases m with _|m
  .rw [zdv] at H1;cases H1
  rw [zdv] at H1;repeat apply fg
  refine rk [2,3,6,7,17] [] (f2 hh c2) fun h hh=>?_;rcases isp H1 with ⟨c3,H1⟩|⟨c3,H1⟩;rotate_left
  .skip;refine cf (f2 hh (zAb c3)) ?_;refine xk ?_;cases H1;exact ce hh ⟨kq hh,rfl⟩
  refine ct (f2 hh (zAa c3)) ?_;refine sk ?_;apply fg;apply gl;obtain ⟨s_2,H2,H1⟩:=zab H1;repeat apply fg
  refine cu [2,3,6,7,31] 3 (fun h bs=>(h 2=.ptr 0 0 20/\h 3=.ptr 1 0 20/\h 6=.arr 2 20 0 n n (n*20)/\h 7=.int .i64 i/\h 31=.bool s_2)/\bs=[.cells true 20 (x.l.map (fh .i64)++(x2.l.map (fh .i64))),.cells true 20 (q.mask.l.map (fh .i64)++(q.bits.l.map (fh .i64))),.cells false (n*20) (vecC ePat l)]) ?_ ?_
  .skip;obtain ⟨aj,e4,H2⟩:=zab H2;rcases isp H2 with ⟨c5,H2⟩|⟨c5,H2⟩;rotate_left
   .skip;obtain ⟨av,e6,H2⟩:=zab H2;refine rkp [2,3,6,7,31] [] [.int .i64 aj,.int .i64 av] (f3 hh (zAb c5) c2) ?_ ?_
    .exact ⟨gd (i7 (zbk ax hx k q.mask i aj e4 ) (by first|rfl|simp only [c2])),gd (i7 (zbk ax hx k x i av e6 ) (by first|rfl|simp only [c2])),trivial⟩
    clear hh h;intro h hh;cases H2;exact ce hh ⟨kq hh,rfl⟩
   refine rkp [2,3,6,7,31] [] [.int .i64 aj] (f3 hh (zAa c5) c2) ?_ ?_
   .exact ⟨gd (i7 (zbk ax hx k q.mask i aj e4 ) (by first|rfl|simp only [c2])),trivial⟩
   clear hh h;intro h hh;cases H2;exact ce hh ⟨kq hh,rfl⟩
  clear hh h;rintro h bs ⟨hh,rfl⟩;rcases isb H1 with ⟨c7,H1⟩|⟨c7,H1⟩;rotate_left
  .skip;refine cf (f2 hh c7) ?_;refine sk ?_;obtain ⟨bn,e8,H1⟩:=zab H1;apply fg;refine rkp [2,3,6,7,8] [] [.int .i64 bn] (f3 hh c2 c7) ?_ ?_
   .exact ⟨gd (i7 (zbk ax hx k q.bits i bn e8 ) (by first|rfl|simp only [c2,c7])),trivial⟩
   clear hh h;intro h hh;obtain ⟨ai,e9,H1⟩:=zab H1;apply fg;refine rkc [2,3,6,7,8] [] [(.agg (ai.l.map (fh .i64)),stL [.cells true 20 (x.l.map (fh .i64)++(x2.l.map (fh .i64))),.cells true 20 (q.mask.l.map (fh .i64)++(q.bits.l.map (fh .i64))),.cells false (n*20) (vecC ePat l)])] (f3 hh c2 c7) ?_ ?_
   .exact ⟨gd (i7 (zfo ax hx k x i 1 ai e9 ) (by first|rfl|simp only [c2,c7])),trivial⟩
   clear hh h;intro h hh;obtain ⟨ar,e10,H1⟩:=zab H1;apply fg;refine rkc [2,3,6,7,8] [] [(.agg (ar.l.map (fh .i64)),stL [.cells true 20 (ai.l.map (fh .i64)++(x2.l.map (fh .i64))),.cells true 20 (q.mask.l.map (fh .i64)++(q.bits.l.map (fh .i64))),.cells false (n*20) (vecC ePat l)])] (f3 hh c2 c7) ?_ ?_
   .exact ⟨gd (i7 (zfo ax hx k x2 i (fi.wrap (1 - bn)) ar e10 ) (by first|rfl|simp only [c2,c7])),trivial⟩
   clear hh h;intro h hh;obtain ⟨g11,H1⟩:=isg H1;apply fg;refine rg [] [] [.cells true 20 (ai.l.map (fh .i64)++(ar.l.map (fh .i64))),.cells true 20 (q.mask.l.map (fh .i64)++(q.bits.l.map (fh .i64))),.cells false ((n+1)*20) (vecC ePat (l++[(⟨ai,ar⟩:Pat)]))] (fun h=>h 2=.ptr 0 0 20/\h 3=.ptr 1 0 20/\h 6=.arr 2 20 0 (n+1) (n+1) ((n+1)*20)/\h 7=.int .i64 i/\h 8=.int .i64 bn) (f3 hh c2 (f2 c7 ((show vecC ePat [(⟨ai,ar⟩:Pat)]=(((⟨ai,ar⟩:Pat).mask).l.map (fh .i64)++(((⟨ai,ar⟩:Pat).bits).l.map (fh .i64))) from zdk.trans rfl)))) trivial fun h hh=>?_;obtain ⟨dh,e12,H1⟩:=zab H1;refine rkc [2,3,6,7] [] [(.agg (dh.l.map (fh .i64)),stL [.cells true 20 (ai.l.map (fh .i64)++(ar.l.map (fh .i64))),.cells true 20 (q.mask.l.map (fh .i64)++(q.bits.l.map (fh .i64))),.cells false ((n+1)*20) (vecC ePat (l++[(⟨ai,ar⟩:Pat)]))])] (f3 hh c2 c7) ?_ ?_
   .exact ⟨gd (i7 (zfo ax hx k ar i bn dh e12 ) (by first|rfl|simp only [c2,c7])),trivial⟩
   clear hh h;intro h hh;refine rk [2,3,6,7] [] (f3 hh c2 c7) fun h hh=>?_;exact rd m hh ⟨(fi.wrap (i+1)),ai,dh,(l++[(⟨ai,ar⟩:Pat)]),(n+1),H1,kq hh,rfl⟩
  refine ct (f2 hh c7) ?_;refine xk ?_;refine rk [2,3,6,7] [] (f3 hh c2 c7) fun h hh=>?_;exact rd m hh ⟨(fi.wrap (i+1)),x,x2,l,n,H1,kq hh,rfl⟩
 clear hh h;rintro h bs ⟨hh,rfl⟩;apply fg;refine rk [4] [] (f2 hh c2) fun h hh=>?_;obtain ⟨g13,H⟩:=isg H;refine pe 4 (b:=2) (e:=20) (off:=0) (len:=s_.2.2.2) (cap:=s_.2.2.2) (M:=(s_.2.2.2*20)) (s_.2.2.1.map ePat) (kq hh) (by rfl) (by omega) (by omega) (by rw [gp];exact zc5 (fun x=>za1 x) g13) (fun t ht=>by obtain ⟨x,_,rfl⟩:=jo.1 ht;first|rfl|exact zf6 _|exact za1 _|exact zd0 _|exact zau _ | (rw [fq];rfl)) (by rw [fq]<;>exact g13) (by omega) ?_;rw [zec _ _ _ (by simp only [lzA]<;>omega)];simp only [scA];refine gk [4] hh fun h hh=>?_;cases H;exact rt hh
def zbx (k:Nat) (l:List Pat) (q:Pat):Nat->Int->(List Pat)->Nat->Option (List Pat×Nat)
 |0,_,_,_=>none
 |m+1,i,l2,n=>(if i<(l.length:Int) then (if 0<=i/\i<(l.length:Int) then ((zk9 k (gx l i) q).bind fun aw=>(if (n+aw.length)*161<=1000000000 then (if aw.length=0 then zbx k l q m (fi.wrap (i+1)) l2 n else zbx k l q m (fi.wrap (i+1)) (l2++aw) (n+aw.length)) else none)) else none) else some (l2,n))
def zgr (k:Nat) (l:List Pat) (q:Pat):Option (List Pat):=((zbx k l q k 0 [] 0:Option (List Pat×Nat)).bind fun s_=>(if s_.1.length=s_.2 then some s_.1 else none))
theorem zqr (ax:Axs) (hx:NoAx ax) (k:Nat) (l:List Pat) (q:Pat) (v:List Pat) (H:zgr k l q=some v):Pure Try.prog (EE ax) [] 65 [lPat l,ePat q] (lPat v):=by
 rw [zgr] at H;refine en [.tmp 4] 22 [0,1] (hx.no _ (by decide)) (fn65 ax) ?_;intro h hh;apply fg;refine rk [0,3] [] hh fun h hh=>?_;apply fg;refine rk [0,3,5] [] hh fun h hh=>?_;refine vk 5 20 [0,3,5] hh fun h hh=>?_;repeat apply fg
 refine rk [0,3,5,6] [] hh fun h hh=>?_;obtain ⟨s_,H1,H⟩:=zab H;refine cu [5] 2 (fun h bs=>(h 5=.arr 1 20 0 s_.2 s_.2 (s_.2*20))/\bs=[.cells true 20 (q.mask.l.map (fh .i64)++(q.bits.l.map (fh .i64))),.cells false (s_.2*20) (vecC ePat s_.1)]) ?_ ?_
 .skip;apply gl;refine jj [0,3,5,6] (fun m h bs=>∃ (i:Int) (l2:List Pat) (n:Nat),zbx k l q m i l2 n=some s_/\(h 0=lPat l/\h 3=.ptr 0 0 20/\h 5=.arr 1 20 0 n n (n*20)/\h 6=.int .i64 i)/\bs=[.cells true 20 (q.mask.l.map (fh .i64)++(q.bits.l.map (fh .i64))),.cells false (n*20) (vecC ePat l2)]) ?_ k _ _ ?_;rotate_left
  .exact ⟨0,[],0,H1,kq hh,rfl⟩
  clear hh h H1;rintro m h bs ⟨i,l2,n,H1,hh,rfl⟩;rcases m with _|m
  .rw [zbx] at H1;cases H1
  rw [zbx] at H1;repeat apply fg
  refine rk [0,3,5,6,10] [] hh fun h hh=>?_;rcases isp H1 with ⟨c1,H1⟩|⟨c1,H1⟩;rotate_left
  .skip;refine cf (f2 hh (zAb c1)) ?_;refine xk ?_;cases H1;exact ce hh ⟨kq hh,rfl⟩
  refine ct (f2 hh (zAa c1)) ?_;refine sk ?_;apply fg;apply gl;obtain ⟨g2,H1⟩:=isg H1;obtain ⟨aw,e3,H1⟩:=zab H1;obtain ⟨g4,H1⟩:=isg H1;rcases isp H1 with ⟨c5,H1⟩|⟨c5,H1⟩;rotate_left
  .skip;refine dg 6 [] [] [(lPat aw,stL [.cells true 20 (q.mask.l.map (fh .i64)++(q.bits.l.map (fh .i64))),.cells false (n*20) (vecC ePat l2)])] [.cells true 20 (q.mask.l.map (fh .i64)++(q.bits.l.map (fh .i64))),.cells false ((n+aw.length)*20) (vecC ePat (l2++aw))] (fun h=>h 0=lPat l/\h 3=.ptr 0 0 20/\h 5=.arr 1 20 0 (n+aw.length) (n+aw.length) ((n+aw.length)*20)/\h 6=.int .i64 i) (f3 hh (zag g2) (f3 (zgg ePat aw) (zbt (f:=ePat) (e:=20) (fun x=>za1 x) aw) (zet (f:=ePat) (fun x=>zn0 x) aw))) trivial ?_ ?_
   .exact ⟨gd ((zpf ax hx k (gx l i) q aw e3 ).call _),trivial⟩
   clear hh h;intro h hh;refine rk [0,3,5,6] [] hh fun h hh=>?_;exact rd m hh ⟨(fi.wrap (i+1)),(l2++aw),(n+aw.length),H1,kq hh,rfl⟩
  refine dg 6 [] [] [(lPat aw,stL [.cells true 20 (q.mask.l.map (fh .i64)++(q.bits.l.map (fh .i64))),.cells false (n*20) (vecC ePat l2)])] [.cells true 20 (q.mask.l.map (fh .i64)++(q.bits.l.map (fh .i64))),.cells false (n*20) (vecC ePat l2)] (fun h=>h 0=lPat l/\h 3=.ptr 0 0 20/\h 5=.arr 1 20 0 n n (n*20)/\h 6=.int .i64 i) (f3 hh c5 (f3 (zag g2) (zgg ePat aw) (f2 (zbt (f:=ePat) (e:=20) (fun x=>za1 x) aw) (zet (f:=ePat) (fun x=>zn0 x) aw)))) trivial ?_ ?_
  .exact ⟨gd ((zpf ax hx k (gx l i) q aw e3 ).call _),trivial⟩
  clear hh h;intro h hh;refine rk [0,3,5,6] [] (f2 hh c5) fun h hh=>?_;exact rd m hh ⟨(fi.wrap (i+1)),l2,n,H1,kq hh,rfl⟩
 clear hh h;rintro h bs ⟨hh,rfl⟩;apply fg;refine rk [4] [] hh fun h hh=>?_;obtain ⟨g6,H⟩:=isg H;refine pe 4 (b:=1) (e:=20) (off:=0) (len:=s_.2) (cap:=s_.2) (M:=(s_.2*20)) (s_.1.map ePat) (kq hh) (by rfl) (by omega) (by omega) (by rw [gp];exact zc5 (fun x=>za1 x) g6) (fun t ht=>by obtain ⟨x,_,rfl⟩:=jo.1 ht;first|rfl|exact zf6 _|exact za1 _|exact zd0 _|exact zau _ | (rw [fq];rfl)) (by rw [fq]<;>exact g6) (by omega) ?_;rw [zec _ _ _ (by simp only [lzA]<;>omega)];simp only [scA];refine gk [4] hh fun h hh=>?_;cases H;exact rt hh
def zbj (k:Nat) (a:Ar 10) (b:Ar 10):Nat->Int->Option (Int ⊕ Unit)
 |0,_=>none
 |m+1,i=>(if i<10 then (if 0<=i/\i<(10:Int) then (if (gx a.l i)<(gx b.l i) then some (.inl (-1)) else (if (gx b.l i)<(gx a.l i) then some (.inl 1) else zbj k a b m (fi.wrap (i+1)))) else none) else some (.inr ()))
def zdd (k:Nat) (a:Ar 10) (b:Ar 10):Option Int:=((zbj k a b k 0:Option (Int ⊕ Unit)).bind fun o=>ks (fun r=>some r) (fun s_=>some 0) o)
theorem zi4 (ax:Axs) (hx:NoAx ax) (k:Nat) (a:Ar 10) (b:Ar 10) (v:Int) (H:zdd k a b=some v):Pure Try.prog (EE ax) [] 45 [.agg (a.l.map (fh .i64)),.agg (b.l.map (fh .i64))] (.int .i64 v):=by
 rw [zdd] at H;refine en [.tmp 4] 24 [0,1] (hx.no _ (by decide)) (fn45 ax) ?_;intro h hh;apply fg;refine rk [2,3] [] hh fun h hh=>?_;repeat apply fg
 refine rk [2,3,5] [] hh fun h hh=>?_;obtain ⟨o,H1,H⟩:=zab H;refine cu [] 2 (fun h bs=>∃ s_:Unit,o=.inr s_/\(True)/\bs=[.cells true 10 (a.l.map (fh .i64)),.cells true 10 (b.l.map (fh .i64))]) ?_ ?_
 .skip;apply gl;refine jj [2,3,5] (fun m h bs=>∃ (i:Int),zbj k a b m i=some o/\(h 2=.ptr 0 0 10/\h 3=.ptr 1 0 10/\h 5=.int .i64 i)/\bs=[.cells true 10 (a.l.map (fh .i64)),.cells true 10 (b.l.map (fh .i64))]) ?_ k _ _ ?_;rotate_left
  .exact ⟨0,H1,kq hh,rfl⟩
  clear hh h H1;rintro m h bs ⟨i,H1,hh,rfl⟩;rcases m with _|m
  .rw [zbj] at H1;cases H1
  rw [zbj] at H1;repeat apply fg
  refine rk [2,3,5,7] [] hh fun h hh=>?_;rcases isp H1 with ⟨c1,H1⟩|⟨c1,H1⟩;rotate_left
  .skip;refine cf (f2 hh (zAb c1)) ?_;refine xk ?_;cases H1;exact ce hh ⟨_,rfl,kq hh,rfl⟩
  refine ct (f2 hh (zAa c1)) ?_;refine sk ?_;apply fg;apply gl;obtain ⟨g2,H1⟩:=isg H1;repeat apply fg
  refine dk 6 [2,3,5,16] [] [] [] (f3 hh (arIx a g2) (arIx b g2)) trivial trivial fun h hh=>?_;rcases isp H1 with ⟨c3,H1⟩|⟨c3,H1⟩;rotate_left
  .skip;refine cf (f2 hh (zAb c3)) ?_;refine sk ?_;apply fg;refine dk 6 [2,3,5,23] [] [] [] (f3 hh (arIx a g2) (arIx b g2)) trivial trivial fun h hh=>?_;rcases isp H1 with ⟨c4,H1⟩|⟨c4,H1⟩;rotate_left
   .skip;refine cf (f2 hh (zAb c4)) ?_;refine sk ?_;refine rk [2,3,5] [] hh fun h hh=>?_;exact rd m hh ⟨(fi.wrap (i+1)),H1,kq hh,rfl⟩
   refine ct (f2 hh (zAa c4)) ?_;apply fg;refine rk [4] [] hh fun h hh=>?_;cases H1;obtain rfl:=sinl H;exact rt hh
  refine ct (f2 hh (zAa c3)) ?_;apply fg;refine rk [4] [] hh fun h hh=>?_;cases H1;obtain rfl:=sinl H;exact rt hh
 clear hh h;rintro h bs ⟨s_,rfl,hh,rfl⟩;replace H:=sinr H;apply fg;refine rk [4] [] hh fun h hh=>?_;cases H;exact rt hh
def zc0 (k:Nat) (l:List Pat):Nat->(List Pat)->Int->Option (List Pat)
 |0,_,_=>none
 |m+1,left,i=>(if i<(l.length:Int) then (if 0<=i/\i<(l.length:Int) then ((zgr k left (gx l i)).bind fun di=>zc0 k l m di (fi.wrap (i+1))) else none) else some left)
def zb6 (k:Nat) (s_:List Pat):Nat->Int->(Ar 10)->Option (Ar 10)
 |0,_,_=>none
 |m+1,i2,x=>(if i2<(s_.length:Int) then (if 0<=i2/\i2<(s_.length:Int) then ((zdd k ((gx s_ i2).bits) x).bind fun bj=>(if bj<0 then zb6 k s_ m (fi.wrap (i2+1)) ((gx s_ i2).bits) else zb6 k s_ m (fi.wrap (i2+1)) x)) else none) else some x)
def zen (k:Nat) (p:Pat) (l:List Pat):Option (Ar 10×Bool):=((zc0 k l k [p] 0:Option (List Pat)).bind fun s_=>(if (s_.length:Int)=0 then some ((zA 10),false) else (if (0:Int)<=0/\0<(s_.length:Int) then ((zb6 k s_ k 1 ((gx s_ 0).bits):Option (Ar 10)).bind fun s_2=>some (s_2,true)) else none)))
theorem zms (ax:Axs) (hx:NoAx ax) (k:Nat) (p:Pat) (l:List Pat) (v:Ar 10×Bool) (H:zen k p l=some v):Pure Try.prog (EE ax) [] 43 [ePat p,lPat l] (tupT [.agg (v.1.l.map (fh .i64)),.bool v.2]):=by
 rw [zen] at H;refine enN [.cell 4 43,.tmp 5] 52 [0,1] (hx.no _ (by decide)) (fn43 ax) ?_;intro h hh;apply fg;refine rk [1,2,4] [] hh fun h hh=>?_;apply fg;refine rk [1,4,6] [] hh fun h hh=>?_;repeat apply fg
 refine rk [1,4,6,7] [] hh fun h hh=>?_;obtain ⟨s_,H1,H⟩:=zab H;refine cu [4,6] 2 (fun h bs=>(h 4=.ptr 1 0 10/\h 6=lPat s_)/\bs=[.cells true 20 (p.mask.l.map (fh .i64)++(p.bits.l.map (fh .i64))),.cells true 10 ((zA 10).l.map (fh .i64))]) ?_ ?_
 .skip;apply gl;refine jj [1,4,6,7] (fun m h bs=>∃ (left:List Pat) (i:Int),zc0 k l m left i=some s_/\(h 1=lPat l/\h 4=.ptr 1 0 10/\h 6=lPat left/\h 7=.int .i64 i)/\bs=[.cells true 20 (p.mask.l.map (fh .i64)++(p.bits.l.map (fh .i64))),.cells true 10 ((zA 10).l.map (fh .i64))]) ?_ k _ _ ?_;rotate_left
  .exact ⟨[p],0,H1,kq hh,rfl⟩
  clear hh h H1;rintro m h bs ⟨left,i,H1,hh,rfl⟩;rcases m with _|m
  .rw [zc0] at H1;cases H1
  rw [zc0] at H1;repeat apply fg
  refine rk [1,4,6,7,15] [] hh fun h hh=>?_;rcases isp H1 with ⟨c1,H1⟩|⟨c1,H1⟩;rotate_left
  .skip;refine cf (f2 hh (zAb c1)) ?_;refine xk ?_;cases H1;exact ce hh ⟨kq hh,rfl⟩
  refine ct (f2 hh (zAa c1)) ?_;refine sk ?_;apply fg;apply gl;obtain ⟨g2,H1⟩:=isg H1;obtain ⟨di,e3,H1⟩:=zab H1;refine rkp [1,4,6,7] [] [lPat di] (f2 hh (zag g2)) ?_ ?_
  .exact ⟨gd ((zqr ax hx k left (gx l i) di e3 ).call _),trivial⟩
  clear hh h;intro h hh;refine rk [1,4,6,7] [] hh fun h hh=>?_;exact rd m hh ⟨di,(fi.wrap (i+1)),H1,kq hh,rfl⟩
 clear hh h;rintro h bs ⟨hh,rfl⟩;repeat apply fg
 refine rk [4,6,26] [] hh fun h hh=>?_;rcases isp H with ⟨c4,H⟩|⟨c4,H⟩;rotate_left
 .skip;refine cf (f2 hh (zAb c4)) ?_;refine sk ?_;obtain ⟨g5,H⟩:=isg H;apply fg;refine rk [4,6,8] [] (f2 hh (zag g5)) fun h hh=>?_;repeat apply fg
  refine rk [4,6,8,9] [] hh fun h hh=>?_;obtain ⟨s_2,H1,H⟩:=zab H;refine cu [4,8] 3 (fun h bs=>(h 4=.ptr 1 0 10/\h 8=.ptr 2 0 10)/\bs=[.cells true 20 (p.mask.l.map (fh .i64)++(p.bits.l.map (fh .i64))),.cells true 10 ((zA 10).l.map (fh .i64)),.cells true 10 (s_2.l.map (fh .i64))]) ?_ ?_
  .skip;apply gl;refine jj [4,6,8,9] (fun m h bs=>∃ (i2:Int) (x:Ar 10),zb6 k s_ m i2 x=some s_2/\(h 4=.ptr 1 0 10/\h 6=lPat s_/\h 8=.ptr 2 0 10/\h 9=.int .i64 i2)/\bs=[.cells true 20 (p.mask.l.map (fh .i64)++(p.bits.l.map (fh .i64))),.cells true 10 ((zA 10).l.map (fh .i64)),.cells true 10 (x.l.map (fh .i64))]) ?_ k _ _ ?_;rotate_left
   .exact ⟨1,((gx s_ 0).bits),H1,kq hh,rfl⟩
   clear hh h H1;rintro m h bs ⟨i2,x,H1,hh,rfl⟩;rcases m with _|m
   .rw [zb6] at H1;cases H1
   rw [zb6] at H1;repeat apply fg
   refine rk [4,6,8,9,35] [] hh fun h hh=>?_;rcases isp H1 with ⟨c6,H1⟩|⟨c6,H1⟩;rotate_left
   .skip;refine cf (f2 hh (zAb c6)) ?_;refine xk ?_;cases H1;exact ce hh ⟨kq hh,rfl⟩
   refine ct (f2 hh (zAa c6)) ?_;refine sk ?_;apply fg;apply gl;obtain ⟨g7,H1⟩:=isg H1;obtain ⟨bj,e8,H1⟩:=zab H1;apply fg;refine dk 6 [4,6,8,9,45] [] [] [(.int .i64 bj,stL [.cells true 20 (p.mask.l.map (fh .i64)++(p.bits.l.map (fh .i64))),.cells true 10 ((zA 10).l.map (fh .i64)),.cells true 10 (x.l.map (fh .i64))])] (f2 hh (zag g7)) trivial ?_ ?_
   .exact ⟨gd ((zi4 ax hx k ((gx s_ i2).bits) x bj e8 ).call _),trivial⟩
   clear hh h;intro h hh;rcases isp H1 with ⟨c9,H1⟩|⟨c9,H1⟩;rotate_left
   .skip;refine cf (f2 hh (zAb c9)) ?_;refine sk ?_;refine rk [4,6,8,9] [] hh fun h hh=>?_;exact rd m hh ⟨(fi.wrap (i2+1)),x,H1,kq hh,rfl⟩
   refine ct (f2 hh (zAa c9)) ?_;refine rk [4,6,8,9] [] (f2 hh (zag g7)) fun h hh=>?_;refine rk [4,6,8,9] [] hh fun h hh=>?_;exact rd m hh ⟨(fi.wrap (i2+1)),((gx s_ i2).bits),H1,kq hh,rfl⟩
  clear hh h;rintro h bs ⟨hh,rfl⟩;apply fg;refine rk [4,5] [] hh fun h hh=>?_;cases H;exact rtc hh
 refine ct (f2 hh (zAa c4)) ?_;apply fg;refine rk [4,5] [] (f2 hh (bz43 ax)) fun h hh=>?_;cases H;exact rtc hh
def z0r (k:Nat) (t:List Rule) (k_:Int):Option (Ar 10×Bool):=(((if k_<0 then some true else some (decide ((t.length:Int)<=k_))):Option Bool).bind fun s_=>(if s_=true then some ((zA 10),false) else (if 0<=k_/\k_<(t.length:Int) then ((zgz k t k_).bind fun ac=>((zen k ((gx t k_).mat) ac).bind fun az=>some (az.1,az.2))) else none)))
def zbo (k:Nat) (l:List Int) (k_:Int):Nat->Bool->Int->Option Bool
 |0,_,_=>none
 |m+1,gone,i=>(if i<(l.length:Int) then (if gone=true then zbo k l k_ m true (fi.wrap (i+1)) else (if 0<=i/\i<(l.length:Int) then zbo k l k_ m (decide ((gx l i)=k_)) (fi.wrap (i+1)) else none)) else some gone)
def zcz (k:Nat) (t:List Rule) (l:List Int):Nat->Int->(List Rule)->Nat->Option (List Rule×Nat)
 |0,_,_,_=>none
 |m+1,k_,l2,n=>(if k_<(t.length:Int) then ((((zbo k l k_ k false 0:Option Bool).bind fun s_3=>(if s_3=true then some (l2,n) else (if 0<=k_/\k_<(t.length:Int) then (if (n+1)*201<=1000000000 then some (l2++[gx t k_],n+1) else none) else none))):Option (List Rule×Nat)).bind fun s_2=>zcz k t l m (fi.wrap (k_+1)) s_2.1 s_2.2) else some (l2,n))
def zig (k:Nat) (t:List Rule) (l:List Int):Option (List Rule):=((zcz k t l k 0 [] 0:Option (List Rule×Nat)).bind fun s_=>(if s_.1.length=s_.2 then some s_.1 else none))
theorem ztc (ax:Axs) (hx:NoAx ax) (k:Nat) (t:List Rule) (l:List Int) (v:List Rule) (H:zig k t l=some v):Pure Try.prog (EE ax) [] 22 [zae t,ints l] (zae v):=by
 rw [zig] at H;refine en [.tmp 4] 40 [0,1] (hx.no _ (by decide)) (fn22 ax) ?_;intro h hh;apply fg;refine rk [0,1] [] hh fun h hh=>?_;apply fg;refine rk [0,1,5] [] hh fun h hh=>?_;refine vk 5 23 [0,1,5] hh fun h hh=>?_;repeat apply fg
 refine rk [0,1,5,6] [] hh fun h hh=>?_;obtain ⟨s_,H1,H⟩:=zab H;refine cu [5] 1 (fun h bs=>(h 5=.arr 0 23 0 s_.2 s_.2 (s_.2*23))/\bs=[.cells false (s_.2*23) (vecC zaj s_.1)]) ?_ ?_
 .skip;apply gl;refine jj [0,1,5,6] (fun m h bs=>∃ (k_:Int) (l2:List Rule) (n:Nat),zcz k t l m k_ l2 n=some s_/\(h 0=zae t/\h 1=ints l/\h 5=.arr 0 23 0 n n (n*23)/\h 6=.int .i64 k_)/\bs=[.cells false (n*23) (vecC zaj l2)]) ?_ k _ _ ?_;rotate_left
  .exact ⟨0,[],0,H1,kq hh,rfl⟩
  clear hh h H1;rintro m h bs ⟨k_,l2,n,H1,hh,rfl⟩;rcases m with _|m
  .rw [zcz] at H1;cases H1
  rw [zcz] at H1;repeat apply fg
  refine rk [0,1,5,6,12] [] hh fun h hh=>?_;rcases isp H1 with ⟨c1,H1⟩|⟨c1,H1⟩;rotate_left
  .skip;refine cf (f2 hh (zAb c1)) ?_;refine xk ?_;cases H1;exact ce hh ⟨kq hh,rfl⟩
  refine ct (f2 hh (zAa c1)) ?_;refine sk ?_;obtain ⟨s_2,H2,H1⟩:=zab H1;apply fg;refine cu [0,1,5,6] 1 (fun h bs=>(h 0=zae t/\h 1=ints l/\h 5=.arr 0 23 0 s_2.2 s_2.2 (s_2.2*23)/\h 6=.int .i64 k_)/\bs=[.cells false (s_2.2*23) (vecC zaj s_2.1)]) ?_ ?_
  .skip;apply gl;apply fg;refine rk [0,1,5,6,7] [] hh fun h hh=>?_;repeat apply fg
   refine rk [0,1,5,6,7,8] [] hh fun h hh=>?_;obtain ⟨s_3,H3,H2⟩:=zab H2;refine cu [0,1,5,6,7] 1 (fun h bs=>(h 0=zae t/\h 1=ints l/\h 5=.arr 0 23 0 n n (n*23)/\h 6=.int .i64 k_/\h 7=.bool s_3)/\bs=[.cells false (n*23) (vecC zaj l2)]) ?_ ?_
   .skip;apply gl;refine jj [0,1,5,6,7,8] (fun m h bs=>∃ (gone:Bool) (i:Int),zbo k l k_ m gone i=some s_3/\(h 0=zae t/\h 1=ints l/\h 5=.arr 0 23 0 n n (n*23)/\h 6=.int .i64 k_/\h 7=.bool gone/\h 8=.int .i64 i)/\bs=[.cells false (n*23) (vecC zaj l2)]) ?_ k _ _ ?_;rotate_left
    .exact ⟨false,0,H3,kq hh,rfl⟩
    clear hh h H3;rintro m h bs ⟨gone,i,H3,hh,rfl⟩;rcases m with _|m
    .rw [zbo] at H3;cases H3
    rw [zbo] at H3;repeat apply fg
    refine rk [0,1,5,6,7,8,18] [] hh fun h hh=>?_;rcases isp H3 with ⟨c2,H3⟩|⟨c2,H3⟩;rotate_left
    .skip;refine cf (f2 hh (zAb c2)) ?_;refine xk ?_;cases H3;exact ce hh ⟨kq hh,rfl⟩
    refine ct (f2 hh (zAa c2)) ?_;refine sk ?_;apply fg;apply gl;rcases isb H3 with ⟨c3,H3⟩|⟨c3,H3⟩;rotate_left
    .skip;obtain ⟨g4,H3⟩:=isg H3;refine rk [0,1,5,6,7,8] [] (f3 hh c3 (zag g4)) fun h hh=>?_;refine rk [0,1,5,6,7,8] [] (f2 hh c3) fun h hh=>?_;exact rd m hh ⟨(decide ((gx l i)=k_)),(fi.wrap (i+1)),H3,kq hh,rfl⟩
    refine rk [0,1,5,6,7,8] [] (f2 hh c3) fun h hh=>?_;refine rk [0,1,5,6,7,8] [] (f2 hh c3) fun h hh=>?_;exact rd m hh ⟨true,(fi.wrap (i+1)),H3,kq hh,rfl⟩
   clear hh h;rintro h bs ⟨hh,rfl⟩;apply fg;refine rk [0,1,5,6,31] [] hh fun h hh=>?_;rcases isb H2 with ⟨c5,H2⟩|⟨c5,H2⟩;rotate_left
   .skip;refine ct (f2 hh c5) ?_;obtain ⟨g6,H2⟩:=isg H2;obtain ⟨g7,H2⟩:=isg H2;refine rg [] [] [.cells false ((n+1)*23) (vecC zaj (l2++[gx t k_]))] (fun h=>h 0=zae t/\h 1=ints l/\h 5=.arr 0 23 0 (n+1) (n+1) ((n+1)*23)/\h 6=.int .i64 k_) (f3 hh c5 (f2 (zag g6) ((show vecC zaj [gx t k_]=(fh .i64 ((gx t k_).prio) :: ((((gx t k_).mat).mask).l.map (fh .i64)++((((gx t k_).mat).bits).l.map (fh .i64)++[fh .i64 ((gx t k_).step),za3 ((gx t k_).outs)]))) from zdk.trans rfl)))) trivial fun h hh=>?_;cases H2;exact ce hh ⟨kq hh,rfl⟩
   refine cf (f2 hh c5) ?_;refine sk ?_;cases H2;exact ce hh ⟨kq hh,rfl⟩
  clear hh h;rintro h bs ⟨hh,rfl⟩;refine rk [0,1,5,6] [] hh fun h hh=>?_;exact rd m hh ⟨(fi.wrap (k_+1)),s_2.1,s_2.2,H1,kq hh,rfl⟩
 clear hh h;rintro h bs ⟨hh,rfl⟩;apply fg;refine rk [4] [] hh fun h hh=>?_;obtain ⟨g8,H⟩:=isg H;refine pe 4 (b:=0) (e:=23) (off:=0) (len:=s_.2) (cap:=s_.2) (M:=(s_.2*23)) (s_.1.map zaj) (kq hh) (by rfl) (by omega) (by omega) (by rw [gp];exact zc5 (fun x=>zau x) g8) (fun t ht=>by obtain ⟨x,_,rfl⟩:=jo.1 ht;first|rfl|exact zf6 _|exact za1 _|exact zd0 _|exact zau _ | (rw [fq];rfl)) (by rw [fq]<;>exact g8) (by omega) ?_;rw [zec _ _ _ (by simp only [lzA]<;>omega)];simp only [scA];refine gk [4] hh fun h hh=>?_;cases H;exact rt hh
def zcd (k:Nat) (l:List Pat):Nat->Int->Option (Bool ⊕ Unit)
 |0,_=>none
 |m+1,i=>(if i<(l.length:Int) then (if 0<=i/\i<(l.length:Int) then ((zh6 k (gx l i)).bind fun bk=>(if bk=true then zcd k l m (fi.wrap (i+1)) else some (.inl false))) else none) else some (.inr ()))
def zhm (k:Nat) (l:List Pat):Option Bool:=((zcd k l k 0:Option (Bool ⊕ Unit)).bind fun o=>ks (fun r=>some r) (fun s_=>some true) o)
theorem zr8 (ax:Axs) (hx:NoAx ax) (k:Nat) (l:List Pat) (v:Bool) (H:zhm k l=some v):Pure Try.prog (EE ax) [] 68 [lPat l] (.bool v):=by
 rw [zhm] at H;refine en [.tmp 2] 18 [0] (hx.no _ (by decide)) (fn68 ax) ?_;intro h hh;apply fg;refine rk [0] [] hh fun h hh=>?_;repeat apply fg
 refine rk [0,3] [] hh fun h hh=>?_;obtain ⟨o,H1,H⟩:=zab H;refine cu [] 0 (fun h bs=>∃ s_:Unit,o=.inr s_/\(True)/\bs=[]) ?_ ?_
 .skip;apply gl;refine jj [0,3] (fun m h bs=>∃ (i:Int),zcd k l m i=some o/\(h 0=lPat l/\h 3=.int .i64 i)/\bs=[]) ?_ k _ _ ?_;rotate_left
  .exact ⟨0,H1,kq hh,rfl⟩
  clear hh h H1;rintro m h bs ⟨i,H1,hh,rfl⟩;rcases m with _|m
  .rw [zcd] at H1;cases H1
  rw [zcd] at H1;repeat apply fg
  refine rk [0,3,8] [] hh fun h hh=>?_;rcases isp H1 with ⟨c1,H1⟩|⟨c1,H1⟩;rotate_left
  .skip;refine cf (f2 hh (zAb c1)) ?_;refine xk ?_;cases H1;exact ce hh ⟨_,rfl,kq hh,rfl⟩
  refine ct (f2 hh (zAa c1)) ?_;refine sk ?_;apply fg;apply gl;obtain ⟨g2,H1⟩:=isg H1;obtain ⟨bk,e3,H1⟩:=zab H1;apply fg;refine rkp [0,3,4] [] [.bool bk] (f2 hh (zag g2)) ?_ ?_
  .exact ⟨gd ((zlp ax hx k (gx l i) bk e3 ).call _),trivial⟩
  clear hh h;intro h hh;apply fg;refine rk [0,3,17] [] hh fun h hh=>?_;rcases isb H1 with ⟨c4,H1⟩|⟨c4,H1⟩;rotate_left
  .skip;refine ct (f2 hh c4) ?_;apply fg;refine rk [2] [] (f2 hh c4) fun h hh=>?_;cases H1;obtain rfl:=sinl H;exact rt hh
  refine cf (f2 hh c4) ?_;refine sk ?_;refine rk [0,3] [] (f2 hh c4) fun h hh=>?_;exact rd m hh ⟨(fi.wrap (i+1)),H1,kq hh,rfl⟩
 clear hh h;rintro h bs ⟨s_,rfl,hh,rfl⟩;replace H:=sinr H;apply fg;refine rk [2] [] hh fun h hh=>?_;cases H;exact rt hh
def zdw (k:Nat) (m_:Pat):Nat->Int->(Ar 10)->Option (Ar 10)
 |0,_,_=>none
 |m+1,i,x=>(if i<160 then ((zdl k m_.mask i).bind fun aj=>(if aj=1 then ((zdl k m_.bits i).bind fun av=>((zfi k x i av).bind fun ai=>zdw k m_ m (fi.wrap (i+1)) ai)) else zdw k m_ m (fi.wrap (i+1)) x)) else some x)
def zlb (k:Nat) (m_:Pat) (h_:Ar 10):Option (Ar 10):=((zdw k m_ k 0 h_:Option (Ar 10)).bind fun s_=>some s_)
theorem zy5 (ax:Axs) (hx:NoAx ax) (k:Nat) (m_:Pat) (h_:Ar 10) (v:Ar 10) (H:zlb k m_ h_=some v):Pure Try.prog (EE ax) [] 81 [ePat m_,.agg (h_.l.map (fh .i64))] (.agg (v.l.map (fh .i64))):=by
 rw [zlb] at H;refine en [.cell 4 43] 23 [0,1] (hx.no _ (by decide)) (fn81 ax) ?_;intro h hh;apply fg;refine rk [2,3,4] [] hh fun h hh=>?_;repeat apply fg
 refine rk [2,3,4,5] [] hh fun h hh=>?_;obtain ⟨s_,H1,H⟩:=zab H;refine cu [3,4] 3 (fun h bs=>(h 3=.ptr 1 0 10/\h 4=.ptr 2 0 10)/\bs=[.cells true 20 (m_.mask.l.map (fh .i64)++(m_.bits.l.map (fh .i64))),.cells true 10 (s_.l.map (fh .i64)),.cells true 10 ((zA 10).l.map (fh .i64))]) ?_ ?_
 .skip;apply gl;refine jj [2,3,4,5] (fun m h bs=>∃ (i:Int) (x:Ar 10),zdw k m_ m i x=some s_/\(h 2=.ptr 0 0 20/\h 3=.ptr 1 0 10/\h 4=.ptr 2 0 10/\h 5=.int .i64 i)/\bs=[.cells true 20 (m_.mask.l.map (fh .i64)++(m_.bits.l.map (fh .i64))),.cells true 10 (x.l.map (fh .i64)),.cells true 10 ((zA 10).l.map (fh .i64))]) ?_ k _ _ ?_;rotate_left
  .exact ⟨0,h_,H1,kq hh,rfl⟩
  clear hh h H1;rintro m h bs ⟨i,x,H1,hh,rfl⟩;rcases m with _|m
  .rw [zdw] at H1;cases H1
  rw [zdw] at H1;repeat apply fg
  refine rk [2,3,4,5,7] [] hh fun h hh=>?_;rcases isp H1 with ⟨c1,H1⟩|⟨c1,H1⟩;rotate_left
  .skip;refine cf (f2 hh (zAb c1)) ?_;refine xk ?_;cases H1;exact ce hh ⟨kq hh,rfl⟩
  refine ct (f2 hh (zAa c1)) ?_;refine sk ?_;apply fg;apply gl;obtain ⟨aj,e2,H1⟩:=zab H1;apply fg;refine rkp [2,3,4,5,14] [] [.int .i64 aj] hh ?_ ?_
  .exact ⟨gd ((zbk ax hx k m_.mask i aj e2 ).call _),trivial⟩
  clear hh h;intro h hh;rcases isp H1 with ⟨c3,H1⟩|⟨c3,H1⟩;rotate_left
  .skip;refine cf (f2 hh (zAb c3)) ?_;refine sk ?_;refine rk [2,3,4,5] [] hh fun h hh=>?_;exact rd m hh ⟨(fi.wrap (i+1)),x,H1,kq hh,rfl⟩
  refine ct (f2 hh (zAa c3)) ?_;obtain ⟨av,e4,H1⟩:=zab H1;obtain ⟨ai,e5,H1⟩:=zab H1;refine dk 6 [2,3,4,5] [.int .i64 av] [] [(.agg (ai.l.map (fh .i64)),stL [.cells true 20 (m_.mask.l.map (fh .i64)++(m_.bits.l.map (fh .i64))),.cells true 10 (x.l.map (fh .i64)),.cells true 10 ((zA 10).l.map (fh .i64))])] hh ?_ ?_ ?_
  .exact ⟨(zbk ax hx k m_.bits i av e4 ).call _,trivial⟩
  .exact ⟨gd ((zfo ax hx k x i av ai e5 ).call _),trivial⟩
  clear hh h;intro h hh;refine rk [2,3,4,5] [] hh fun h hh=>?_;exact rd m hh ⟨(fi.wrap (i+1)),ai,H1,kq hh,rfl⟩
 clear hh h;rintro h bs ⟨hh,rfl⟩;apply fg;refine rk [4] [] hh fun h hh=>?_;cases H;exact rtc hh
def zep (k:Nat) (p:Pat):Nat->Int->Int->Option Int
 |0,_,_=>none
 |m+1,n,i=>(if i<160 then ((zdl k p.mask i).bind fun aj=>zep k p m (fi.wrap ((fi.wrap (n+1)) - aj)) (fi.wrap (i+1))) else some n)
def zmu (k:Nat) (p:Pat):Option Int:=((zep k p k 0 0:Option Int).bind fun s_=>some s_)
theorem z0u (ax:Axs) (hx:NoAx ax) (k:Nat) (p:Pat) (v:Int) (H:zmu k p=some v):Pure Try.prog (EE ax) [] 82 [ePat p] (.int .i64 v):=by
 rw [zmu] at H;refine en [.tmp 2] 17 [0] (hx.no _ (by decide)) (fn82 ax) ?_;intro h hh;apply fg;refine rk [1] [] hh fun h hh=>?_;apply fg;refine rk [1,3] [] hh fun h hh=>?_;repeat apply fg
 refine rk [1,3,4] [] hh fun h hh=>?_;obtain ⟨s_,H1,H⟩:=zab H;refine cu [3] 1 (fun h bs=>(h 3=.int .i64 s_)/\bs=[.cells true 20 (p.mask.l.map (fh .i64)++(p.bits.l.map (fh .i64)))]) ?_ ?_
 .skip;apply gl;refine jj [1,3,4] (fun m h bs=>∃ (n:Int) (i:Int),zep k p m n i=some s_/\(h 1=.ptr 0 0 20/\h 3=.int .i64 n/\h 4=.int .i64 i)/\bs=[.cells true 20 (p.mask.l.map (fh .i64)++(p.bits.l.map (fh .i64)))]) ?_ k _ _ ?_;rotate_left
  .exact ⟨0,0,H1,kq hh,rfl⟩
  clear hh h H1;rintro m h bs ⟨n,i,H1,hh,rfl⟩;rcases m with _|m
  .rw [zep] at H1;cases H1
  rw [zep] at H1;repeat apply fg
  refine rk [1,3,4,6] [] hh fun h hh=>?_;rcases isp H1 with ⟨c1,H1⟩|⟨c1,H1⟩;rotate_left
  .skip;refine cf (f2 hh (zAb c1)) ?_;refine xk ?_;cases H1;exact ce hh ⟨kq hh,rfl⟩
  refine ct (f2 hh (zAa c1)) ?_;refine sk ?_;apply fg;apply gl;obtain ⟨aj,e2,H1⟩:=zab H1;refine rkp [1,3,4] [] [.int .i64 aj] hh ?_ ?_
  .exact ⟨gd ((zbk ax hx k p.mask i aj e2 ).call _),trivial⟩
  clear hh h;intro h hh;refine rk [1,3,4] [] hh fun h hh=>?_;exact rd m hh ⟨(fi.wrap ((fi.wrap (n+1)) - aj)),(fi.wrap (i+1)),H1,kq hh,rfl⟩
 clear hh h;rintro h bs ⟨hh,rfl⟩;apply fg;refine rk [2] [] hh fun h hh=>?_;cases H;exact rt hh
def ze3 (k:Nat) (l:List Pat):Nat->Int->(Ar 10)->Option (Ar 10)
 |0,_,_=>none
 |m+1,i,x=>(if i<(l.length:Int) then (if 0<=i/\i<(l.length:Int) then ((zlb k (⟨(gx l i).mask,(gx l i).mask⟩:Pat) x).bind fun ah=>ze3 k l m (fi.wrap (i+1)) ah) else none) else some x)
def zla (k:Nat) (l:List Pat):Option Int:=((ze3 k l k 0 (zA 10):Option (Ar 10)).bind fun s_=>((zmu k (⟨s_,(zA 10)⟩:Pat)).bind fun d8=>some (fi.wrap (160 - d8))))
theorem zy4 (ax:Axs) (hx:NoAx ax) (k:Nat) (l:List Pat) (v:Int) (H:zla k l=some v):Pure Try.prog (EE ax) [] 69 [lPat l] (.int .i64 v):=by
 rw [zla] at H;refine en [.tmp 2] 30 [0] (hx.no _ (by decide)) (fn69 ax) ?_;intro h hh;apply fg;refine rk [0] [] hh fun h hh=>?_;apply fg;refine rk [0,3] [] hh fun h hh=>?_;repeat apply fg
 refine rk [0,3,4] [] hh fun h hh=>?_;obtain ⟨s_,H1,H⟩:=zab H;refine cu [3] 1 (fun h bs=>(h 3=.ptr 0 0 20)/\bs=[.cells true 20 (s_.l.map (fh .i64)++((zA 10).l.map (fh .i64)))]) ?_ ?_
 .skip;apply gl;refine jj [0,3,4] (fun m h bs=>∃ (i:Int) (x:Ar 10),ze3 k l m i x=some s_/\(h 0=lPat l/\h 3=.ptr 0 0 20/\h 4=.int .i64 i)/\bs=[.cells true 20 (x.l.map (fh .i64)++((zA 10).l.map (fh .i64)))]) ?_ k _ _ ?_;rotate_left
  .exact ⟨0,(zA 10),H1,kq hh,rfl⟩
  clear hh h H1;rintro m h bs ⟨i,x,H1,hh,rfl⟩;rcases m with _|m
  .rw [ze3] at H1;cases H1
  rw [ze3] at H1;repeat apply fg
  refine rk [0,3,4,9] [] hh fun h hh=>?_;rcases isp H1 with ⟨c1,H1⟩|⟨c1,H1⟩;rotate_left
  .skip;refine cf (f2 hh (zAb c1)) ?_;refine xk ?_;cases H1;exact ce hh ⟨kq hh,rfl⟩
  refine ct (f2 hh (zAa c1)) ?_;refine sk ?_;apply fg;apply gl;obtain ⟨g2,H1⟩:=isg H1;obtain ⟨ah,e3,H1⟩:=zab H1;refine dk 13 [0,3,4] [] [] [(.agg (ah.l.map (fh .i64)),stL [.cells true 20 (x.l.map (fh .i64)++((zA 10).l.map (fh .i64)))])] (f2 hh (zag g2)) trivial ?_ ?_
  .exact ⟨gd ((zy5 ax hx k (⟨(gx l i).mask,(gx l i).mask⟩:Pat) x ah e3 ).call _),trivial⟩
  clear hh h;intro h hh;refine rk [0,3,4] [] hh fun h hh=>?_;exact rd m hh ⟨(fi.wrap (i+1)),ah,H1,kq hh,rfl⟩
 clear hh h;rintro h bs ⟨hh,rfl⟩;obtain ⟨d8,e4,H⟩:=zab H;apply fg;refine rkp [2] [] [.int .i64 d8] hh ?_ ?_
 .exact ⟨gd ((z0u ax hx k (⟨s_,(zA 10)⟩:Pat) d8 e4 ).call _),trivial⟩
 clear hh h;intro h hh;cases H;exact rt hh
def zpg (k:Nat) (l:List Pat) (most:Int):Option Bool:=((zhm k l).bind fun d9=>(if d9=true then (if (l.length:Int)<=most then ((zla k l).bind fun ed=>some (decide (ed<=12))) else some false) else some false))
theorem z3y (ax:Axs) (hx:NoAx ax) (k:Nat) (l:List Pat) (most:Int) (v:Bool) (H:zpg k l most=some v):Pure Try.prog (EE ax) [] 53 [lPat l,.int .i64 most] (.bool v):=by
 rw [zpg] at H;refine en [.tmp 4] 20 [0,1] (hx.no _ (by decide)) (fn53 ax) ?_;intro h hh;apply fg;refine rk [0,1] [] hh fun h hh=>?_;obtain ⟨d9,e1,H⟩:=zab H;apply fg;refine rkp [0,1,5] [] [.bool d9] hh ?_ ?_
 .exact ⟨gd ((zr8 ax hx k l d9 e1 ).call _),trivial⟩
 clear hh h;intro h hh;rcases isb H with ⟨c2,H⟩|⟨c2,H⟩;rotate_left
 .skip;apply fg;refine rk [4] [] (f2 hh c2) fun h hh=>?_;cases H;exact rt hh
 rcases isp H with ⟨c3,H⟩|⟨c3,H⟩;rotate_left
 .skip;apply fg;refine rk [4] [] (f3 hh c2 (zAb c3)) fun h hh=>?_;cases H;exact rt hh
 obtain ⟨ed,e4,H⟩:=zab H;apply fg;refine rkp [4] [] [.int .i64 ed] (f3 hh c2 (zAa c3)) ?_ ?_
 .exact ⟨gd (i7 (zy4 ax hx k l ed e4 ) (by first|rfl|simp only [c2])),trivial⟩
 clear hh h;intro h hh;cases H;exact rt hh
def zk5 (k:Nat) (t:List Rule):Option Bool:=((zgz k t (t.length:Int)).bind fun ac=>((zpg k ac 12).bind fun cb=>some cb))
theorem zy0 (ax:Axs) (hx:NoAx ax) (k:Nat) (t:List Rule) (v:Bool) (H:zk5 k t=some v):Pure Try.prog (EE ax) [] 30 [zae t] (.bool v):=by
 rw [zk5] at H;refine en [.tmp 2] 8 [0] (hx.no _ (by decide)) (fn30 ax) ?_;intro h hh;apply fg;refine rk [0] [] hh fun h hh=>?_;obtain ⟨ac,e1,H⟩:=zab H;obtain ⟨cb,e2,H⟩:=zab H;apply fg;refine rkp [2] [] [lPat ac,.bool cb] hh ?_ ?_
 .exact ⟨gd ((zkg ax hx k t (t.length:Int) ac e1 ).call _),gd ((z3y ax hx k ac 12 cb e2 ).call _),trivial⟩
 clear hh h;intro h hh;cases H;exact rt hh
def zcj (k:Nat) (x:Int):Option Int:=(if (0:Int)<=1 then (if (0:Int)<=2 then (if (0:Int)<=4 then (if (0:Int)<=8 then (if (0:Int)<=16 then (if (0:Int)<=32 then some (iAnd .i64 (fi.wrap (f5.wrap ((f5.wrap ((f5.wrap ((iAnd .u64 (f5.wrap ((iShr .u64 (f5.wrap ((iAnd .u64 (iShr .u64 (f5.wrap ((iAnd .u64 (iShr .u64 x 1) 6148914691236517205)+(iAnd .u64 x 6148914691236517205))) 2) 3689348814741910323)+(iAnd .u64 (f5.wrap ((iAnd .u64 (iShr .u64 x 1) 6148914691236517205)+(iAnd .u64 x 6148914691236517205))) 3689348814741910323))) 4)+(f5.wrap ((iAnd .u64 (iShr .u64 (f5.wrap ((iAnd .u64 (iShr .u64 x 1) 6148914691236517205)+(iAnd .u64 x 6148914691236517205))) 2) 3689348814741910323)+(iAnd .u64 (f5.wrap ((iAnd .u64 (iShr .u64 x 1) 6148914691236517205)+(iAnd .u64 x 6148914691236517205))) 3689348814741910323))))) 1085102592571150095)+(iShr .u64 (iAnd .u64 (f5.wrap ((iShr .u64 (f5.wrap ((iAnd .u64 (iShr .u64 (f5.wrap ((iAnd .u64 (iShr .u64 x 1) 6148914691236517205)+(iAnd .u64 x 6148914691236517205))) 2) 3689348814741910323)+(iAnd .u64 (f5.wrap ((iAnd .u64 (iShr .u64 x 1) 6148914691236517205)+(iAnd .u64 x 6148914691236517205))) 3689348814741910323))) 4)+(f5.wrap ((iAnd .u64 (iShr .u64 (f5.wrap ((iAnd .u64 (iShr .u64 x 1) 6148914691236517205)+(iAnd .u64 x 6148914691236517205))) 2) 3689348814741910323)+(iAnd .u64 (f5.wrap ((iAnd .u64 (iShr .u64 x 1) 6148914691236517205)+(iAnd .u64 x 6148914691236517205))) 3689348814741910323))))) 1085102592571150095) 8)))+(iShr .u64 (f5.wrap ((iAnd .u64 (f5.wrap ((iShr .u64 (f5.wrap ((iAnd .u64 (iShr .u64 (f5.wrap ((iAnd .u64 (iShr .u64 x 1) 6148914691236517205)+(iAnd .u64 x 6148914691236517205))) 2) 3689348814741910323)+(iAnd .u64 (f5.wrap ((iAnd .u64 (iShr .u64 x 1) 6148914691236517205)+(iAnd .u64 x 6148914691236517205))) 3689348814741910323))) 4)+(f5.wrap ((iAnd .u64 (iShr .u64 (f5.wrap ((iAnd .u64 (iShr .u64 x 1) 6148914691236517205)+(iAnd .u64 x 6148914691236517205))) 2) 3689348814741910323)+(iAnd .u64 (f5.wrap ((iAnd .u64 (iShr .u64 x 1) 6148914691236517205)+(iAnd .u64 x 6148914691236517205))) 3689348814741910323))))) 1085102592571150095)+(iShr .u64 (iAnd .u64 (f5.wrap ((iShr .u64 (f5.wrap ((iAnd .u64 (iShr .u64 (f5.wrap ((iAnd .u64 (iShr .u64 x 1) 6148914691236517205)+(iAnd .u64 x 6148914691236517205))) 2) 3689348814741910323)+(iAnd .u64 (f5.wrap ((iAnd .u64 (iShr .u64 x 1) 6148914691236517205)+(iAnd .u64 x 6148914691236517205))) 3689348814741910323))) 4)+(f5.wrap ((iAnd .u64 (iShr .u64 (f5.wrap ((iAnd .u64 (iShr .u64 x 1) 6148914691236517205)+(iAnd .u64 x 6148914691236517205))) 2) 3689348814741910323)+(iAnd .u64 (f5.wrap ((iAnd .u64 (iShr .u64 x 1) 6148914691236517205)+(iAnd .u64 x 6148914691236517205))) 3689348814741910323))))) 1085102592571150095) 8))) 16)))+(iShr .u64 (f5.wrap ((f5.wrap ((iAnd .u64 (f5.wrap ((iShr .u64 (f5.wrap ((iAnd .u64 (iShr .u64 (f5.wrap ((iAnd .u64 (iShr .u64 x 1) 6148914691236517205)+(iAnd .u64 x 6148914691236517205))) 2) 3689348814741910323)+(iAnd .u64 (f5.wrap ((iAnd .u64 (iShr .u64 x 1) 6148914691236517205)+(iAnd .u64 x 6148914691236517205))) 3689348814741910323))) 4)+(f5.wrap ((iAnd .u64 (iShr .u64 (f5.wrap ((iAnd .u64 (iShr .u64 x 1) 6148914691236517205)+(iAnd .u64 x 6148914691236517205))) 2) 3689348814741910323)+(iAnd .u64 (f5.wrap ((iAnd .u64 (iShr .u64 x 1) 6148914691236517205)+(iAnd .u64 x 6148914691236517205))) 3689348814741910323))))) 1085102592571150095)+(iShr .u64 (iAnd .u64 (f5.wrap ((iShr .u64 (f5.wrap ((iAnd .u64 (iShr .u64 (f5.wrap ((iAnd .u64 (iShr .u64 x 1) 6148914691236517205)+(iAnd .u64 x 6148914691236517205))) 2) 3689348814741910323)+(iAnd .u64 (f5.wrap ((iAnd .u64 (iShr .u64 x 1) 6148914691236517205)+(iAnd .u64 x 6148914691236517205))) 3689348814741910323))) 4)+(f5.wrap ((iAnd .u64 (iShr .u64 (f5.wrap ((iAnd .u64 (iShr .u64 x 1) 6148914691236517205)+(iAnd .u64 x 6148914691236517205))) 2) 3689348814741910323)+(iAnd .u64 (f5.wrap ((iAnd .u64 (iShr .u64 x 1) 6148914691236517205)+(iAnd .u64 x 6148914691236517205))) 3689348814741910323))))) 1085102592571150095) 8)))+(iShr .u64 (f5.wrap ((iAnd .u64 (f5.wrap ((iShr .u64 (f5.wrap ((iAnd .u64 (iShr .u64 (f5.wrap ((iAnd .u64 (iShr .u64 x 1) 6148914691236517205)+(iAnd .u64 x 6148914691236517205))) 2) 3689348814741910323)+(iAnd .u64 (f5.wrap ((iAnd .u64 (iShr .u64 x 1) 6148914691236517205)+(iAnd .u64 x 6148914691236517205))) 3689348814741910323))) 4)+(f5.wrap ((iAnd .u64 (iShr .u64 (f5.wrap ((iAnd .u64 (iShr .u64 x 1) 6148914691236517205)+(iAnd .u64 x 6148914691236517205))) 2) 3689348814741910323)+(iAnd .u64 (f5.wrap ((iAnd .u64 (iShr .u64 x 1) 6148914691236517205)+(iAnd .u64 x 6148914691236517205))) 3689348814741910323))))) 1085102592571150095)+(iShr .u64 (iAnd .u64 (f5.wrap ((iShr .u64 (f5.wrap ((iAnd .u64 (iShr .u64 (f5.wrap ((iAnd .u64 (iShr .u64 x 1) 6148914691236517205)+(iAnd .u64 x 6148914691236517205))) 2) 3689348814741910323)+(iAnd .u64 (f5.wrap ((iAnd .u64 (iShr .u64 x 1) 6148914691236517205)+(iAnd .u64 x 6148914691236517205))) 3689348814741910323))) 4)+(f5.wrap ((iAnd .u64 (iShr .u64 (f5.wrap ((iAnd .u64 (iShr .u64 x 1) 6148914691236517205)+(iAnd .u64 x 6148914691236517205))) 2) 3689348814741910323)+(iAnd .u64 (f5.wrap ((iAnd .u64 (iShr .u64 x 1) 6148914691236517205)+(iAnd .u64 x 6148914691236517205))) 3689348814741910323))))) 1085102592571150095) 8))) 16))) 32)))) 127) else none) else none) else none) else none) else none) else none)
theorem zki (ax:Axs) (hx:NoAx ax) (k:Nat) (x:Int) (v:Int) (H:zcj k x=some v):Pure Try.prog (EE ax) [] 72 [.int .u64 x] (.int .i64 v):=by
 rw [zcj] at H;refine en [.tmp 2] 35 [0] (hx.no _ (by decide)) (fn72 ax) ?_;intro h hh;apply fg;refine rk [0] [] hh fun h hh=>?_;obtain ⟨g1,H⟩:=isg H;apply fg;refine rk [0] [] (f2 hh (zxj (k:=.u64) (k':=.u64) (a:=x) g1)) fun h hh=>?_;obtain ⟨g2,H⟩:=isg H;apply fg;refine rk [0] [] (f2 hh (zxj (k:=.u64) (k':=.u64) (a:=(f5.wrap ((iAnd .u64 (iShr .u64 x 1) 6148914691236517205)+(iAnd .u64 x 6148914691236517205)))) g2)) fun h hh=>?_;obtain ⟨g3,H⟩:=isg H;apply fg;refine rk [0] [] (f2 hh (zxj (k:=.u64) (k':=.u64) (a:=(f5.wrap ((iAnd .u64 (iShr .u64 (f5.wrap ((iAnd .u64 (iShr .u64 x 1) 6148914691236517205)+(iAnd .u64 x 6148914691236517205))) 2) 3689348814741910323)+(iAnd .u64 (f5.wrap ((iAnd .u64 (iShr .u64 x 1) 6148914691236517205)+(iAnd .u64 x 6148914691236517205))) 3689348814741910323)))) g3)) fun h hh=>?_;obtain ⟨g4,H⟩:=isg H;apply fg;refine rk [0] [] (f2 hh (zxj (k:=.u64) (k':=.u64) (a:=(iAnd .u64 (f5.wrap ((iShr .u64 (f5.wrap ((iAnd .u64 (iShr .u64 (f5.wrap ((iAnd .u64 (iShr .u64 x 1) 6148914691236517205)+(iAnd .u64 x 6148914691236517205))) 2) 3689348814741910323)+(iAnd .u64 (f5.wrap ((iAnd .u64 (iShr .u64 x 1) 6148914691236517205)+(iAnd .u64 x 6148914691236517205))) 3689348814741910323))) 4)+(f5.wrap ((iAnd .u64 (iShr .u64 (f5.wrap ((iAnd .u64 (iShr .u64 x 1) 6148914691236517205)+(iAnd .u64 x 6148914691236517205))) 2) 3689348814741910323)+(iAnd .u64 (f5.wrap ((iAnd .u64 (iShr .u64 x 1) 6148914691236517205)+(iAnd .u64 x 6148914691236517205))) 3689348814741910323))))) 1085102592571150095)) g4)) fun h hh=>?_;obtain ⟨g5,H⟩:=isg H;apply fg;refine rk [0] [] (f2 hh (zxj (k:=.u64) (k':=.u64) (a:=(f5.wrap ((iAnd .u64 (f5.wrap ((iShr .u64 (f5.wrap ((iAnd .u64 (iShr .u64 (f5.wrap ((iAnd .u64 (iShr .u64 x 1) 6148914691236517205)+(iAnd .u64 x 6148914691236517205))) 2) 3689348814741910323)+(iAnd .u64 (f5.wrap ((iAnd .u64 (iShr .u64 x 1) 6148914691236517205)+(iAnd .u64 x 6148914691236517205))) 3689348814741910323))) 4)+(f5.wrap ((iAnd .u64 (iShr .u64 (f5.wrap ((iAnd .u64 (iShr .u64 x 1) 6148914691236517205)+(iAnd .u64 x 6148914691236517205))) 2) 3689348814741910323)+(iAnd .u64 (f5.wrap ((iAnd .u64 (iShr .u64 x 1) 6148914691236517205)+(iAnd .u64 x 6148914691236517205))) 3689348814741910323))))) 1085102592571150095)+(iShr .u64 (iAnd .u64 (f5.wrap ((iShr .u64 (f5.wrap ((iAnd .u64 (iShr .u64 (f5.wrap ((iAnd .u64 (iShr .u64 x 1) 6148914691236517205)+(iAnd .u64 x 6148914691236517205))) 2) 3689348814741910323)+(iAnd .u64 (f5.wrap ((iAnd .u64 (iShr .u64 x 1) 6148914691236517205)+(iAnd .u64 x 6148914691236517205))) 3689348814741910323))) 4)+(f5.wrap ((iAnd .u64 (iShr .u64 (f5.wrap ((iAnd .u64 (iShr .u64 x 1) 6148914691236517205)+(iAnd .u64 x 6148914691236517205))) 2) 3689348814741910323)+(iAnd .u64 (f5.wrap ((iAnd .u64 (iShr .u64 x 1) 6148914691236517205)+(iAnd .u64 x 6148914691236517205))) 3689348814741910323))))) 1085102592571150095) 8)))) g5)) fun h hh=>?_;obtain ⟨g6,H⟩:=isg H;apply fg;refine rk [0] [] (f2 hh (zxj (k:=.u64) (k':=.u64) (a:=(f5.wrap ((f5.wrap ((iAnd .u64 (f5.wrap ((iShr .u64 (f5.wrap ((iAnd .u64 (iShr .u64 (f5.wrap ((iAnd .u64 (iShr .u64 x 1) 6148914691236517205)+(iAnd .u64 x 6148914691236517205))) 2) 3689348814741910323)+(iAnd .u64 (f5.wrap ((iAnd .u64 (iShr .u64 x 1) 6148914691236517205)+(iAnd .u64 x 6148914691236517205))) 3689348814741910323))) 4)+(f5.wrap ((iAnd .u64 (iShr .u64 (f5.wrap ((iAnd .u64 (iShr .u64 x 1) 6148914691236517205)+(iAnd .u64 x 6148914691236517205))) 2) 3689348814741910323)+(iAnd .u64 (f5.wrap ((iAnd .u64 (iShr .u64 x 1) 6148914691236517205)+(iAnd .u64 x 6148914691236517205))) 3689348814741910323))))) 1085102592571150095)+(iShr .u64 (iAnd .u64 (f5.wrap ((iShr .u64 (f5.wrap ((iAnd .u64 (iShr .u64 (f5.wrap ((iAnd .u64 (iShr .u64 x 1) 6148914691236517205)+(iAnd .u64 x 6148914691236517205))) 2) 3689348814741910323)+(iAnd .u64 (f5.wrap ((iAnd .u64 (iShr .u64 x 1) 6148914691236517205)+(iAnd .u64 x 6148914691236517205))) 3689348814741910323))) 4)+(f5.wrap ((iAnd .u64 (iShr .u64 (f5.wrap ((iAnd .u64 (iShr .u64 x 1) 6148914691236517205)+(iAnd .u64 x 6148914691236517205))) 2) 3689348814741910323)+(iAnd .u64 (f5.wrap ((iAnd .u64 (iShr .u64 x 1) 6148914691236517205)+(iAnd .u64 x 6148914691236517205))) 3689348814741910323))))) 1085102592571150095) 8)))+(iShr .u64 (f5.wrap ((iAnd .u64 (f5.wrap ((iShr .u64 (f5.wrap ((iAnd .u64 (iShr .u64 (f5.wrap ((iAnd .u64 (iShr .u64 x 1) 6148914691236517205)+(iAnd .u64 x 6148914691236517205))) 2) 3689348814741910323)+(iAnd .u64 (f5.wrap ((iAnd .u64 (iShr .u64 x 1) 6148914691236517205)+(iAnd .u64 x 6148914691236517205))) 3689348814741910323))) 4)+(f5.wrap ((iAnd .u64 (iShr .u64 (f5.wrap ((iAnd .u64 (iShr .u64 x 1) 6148914691236517205)+(iAnd .u64 x 6148914691236517205))) 2) 3689348814741910323)+(iAnd .u64 (f5.wrap ((iAnd .u64 (iShr .u64 x 1) 6148914691236517205)+(iAnd .u64 x 6148914691236517205))) 3689348814741910323))))) 1085102592571150095)+(iShr .u64 (iAnd .u64 (f5.wrap ((iShr .u64 (f5.wrap ((iAnd .u64 (iShr .u64 (f5.wrap ((iAnd .u64 (iShr .u64 x 1) 6148914691236517205)+(iAnd .u64 x 6148914691236517205))) 2) 3689348814741910323)+(iAnd .u64 (f5.wrap ((iAnd .u64 (iShr .u64 x 1) 6148914691236517205)+(iAnd .u64 x 6148914691236517205))) 3689348814741910323))) 4)+(f5.wrap ((iAnd .u64 (iShr .u64 (f5.wrap ((iAnd .u64 (iShr .u64 x 1) 6148914691236517205)+(iAnd .u64 x 6148914691236517205))) 2) 3689348814741910323)+(iAnd .u64 (f5.wrap ((iAnd .u64 (iShr .u64 x 1) 6148914691236517205)+(iAnd .u64 x 6148914691236517205))) 3689348814741910323))))) 1085102592571150095) 8))) 16)))) g6)) ?_
 clear hh h;intro h hh;apply fg;refine rk [2] [] hh fun h hh=>?_;cases H;exact rt hh
def zc6 (k:Nat) (x:Int):Option Int:=((zcj k x).bind fun ee=>some ee)
theorem zlq (ax:Axs) (hx:NoAx ax) (k:Nat) (x:Int) (v:Int) (H:zc6 k x=some v):Pure Try.prog (EE ax) [] 55 [.int .u64 x] (.int .i64 v):=by
 rw [zc6] at H;refine en [.tmp 2] 8 [0] (hx.no _ (by decide)) (fn55 ax) ?_;intro h hh;apply fg;refine rk [0] [] hh fun h hh=>?_;apply fg;refine cf hh ?_;refine sk ?_;obtain ⟨ee,e1,H⟩:=zab H;apply fg;refine rkp [2] [] [.int .i64 ee] hh ?_ ?_
 .exact ⟨gd ((zki ax hx k x ee e1 ).call _),trivial⟩
 clear hh h;intro h hh;cases H;exact rt hh
def ze5 (k:Nat) (q:Pat):Nat->Int->Int->(Ar 10)->(Ar 10)->Option (Int×Ar 10×Ar 10)
 |0,_,_,_,_=>none
 |m+1,n,i,x,x2=>(if i<10 then (if 0<=i/\i<(10:Int) then ((zc6 k (f5.wrap (iXor .i64 (gx x2.l i) (gx q.bits.l i)))).bind fun dj=>ze5 k q m (fi.wrap (n+dj)) (fi.wrap (i+1)) (x.set i (zhr .i64 (gx x.l i) (iXor .i64 (gx x2.l i) (gx q.bits.l i)))) (x2.set i (zhr .i64 (gx x2.l i) (iXor .i64 (gx x2.l i) (gx q.bits.l i))))) else none) else some (n,x,x2))
def zh9 (k:Nat) (p:Pat) (q:Pat):Option (Pat×Bool):=(if p.mask=q.mask then ((ze5 k q k 0 0 p.mask p.bits:Option (Int×Ar 10×Ar 10)).bind fun s_=>(if s_.1≠1 then some ((⟨zA 10,zA 10⟩:Pat),false) else some ((⟨s_.2.1,s_.2.2⟩:Pat),true))) else some ((⟨zA 10,zA 10⟩:Pat),false))
theorem zpk (ax:Axs) (hx:NoAx ax) (k:Nat) (p:Pat) (q:Pat) (v:Pat×Bool) (H:zh9 k p q=some v):Pure Try.prog (EE ax) [] 34 [ePat p,ePat q] (tupT [ePat v.1,.bool v.2]):=by
 rw [zh9] at H;refine enN [.cell 4 56,.tmp 5] 53 [0,1] (hx.no _ (by decide)) (fn34 ax) ?_;intro h hh;apply fg;refine rk [2,3,4] [] hh fun h hh=>?_;apply fg;refine rk [2,3,4,6] [] hh fun h hh=>?_;repeat apply fg
 refine rk [2,3,4,6,13] [] (f2 hh ((aq43 ax p.mask q.mask).2)) fun h hh=>?_;rcases isp H with ⟨c1,H⟩|⟨c1,H⟩;rotate_left
 .skip;refine ct (f2 hh (zAb c1)) ?_;apply fg;refine rk [4,5] [] hh fun h hh=>?_;cases H;exact rtc hh
 refine cf (f2 hh (zAa c1)) ?_;refine sk ?_;repeat apply fg
 refine rk [2,3,4,6,15] [] hh fun h hh=>?_;obtain ⟨s_,H1,H⟩:=zab H;refine cu [2,4,6] 3 (fun h bs=>(h 2=.ptr 0 0 20/\h 4=.ptr 2 0 20/\h 6=.int .i64 s_.1)/\bs=[.cells true 20 (s_.2.1.l.map (fh .i64)++(s_.2.2.l.map (fh .i64))),.cells true 20 (q.mask.l.map (fh .i64)++(q.bits.l.map (fh .i64))),.cells true 20 ((zA 10).l.map (fh .i64)++((zA 10).l.map (fh .i64)))]) ?_ ?_
 .skip;apply gl;refine jj [2,3,4,6,15] (fun m h bs=>∃ (n:Int) (i:Int) (x:Ar 10) (x2:Ar 10),ze5 k q m n i x x2=some s_/\(h 2=.ptr 0 0 20/\h 3=.ptr 1 0 20/\h 4=.ptr 2 0 20/\h 6=.int .i64 n/\h 15=.int .i64 i)/\bs=[.cells true 20 (x.l.map (fh .i64)++(x2.l.map (fh .i64))),.cells true 20 (q.mask.l.map (fh .i64)++(q.bits.l.map (fh .i64))),.cells true 20 ((zA 10).l.map (fh .i64)++((zA 10).l.map (fh .i64)))]) ?_ k _ _ ?_;rotate_left
  .exact ⟨0,0,p.mask,p.bits,H1,kq hh,rfl⟩
  clear hh h H1;rintro m h bs ⟨n,i,x,x2,H1,hh,rfl⟩;rcases m with _|m
  .rw [ze5] at H1;cases H1
  rw [ze5] at H1;apply fg;refine rk [2,3,4,6,15,16] [] hh fun h hh=>?_;rcases isp H1 with ⟨c2,H1⟩|⟨c2,H1⟩;rotate_left
  .skip;apply fg;refine cf (f2 hh (zAb c2)) ?_;refine xk ?_;cases H1;exact ce hh ⟨kq hh,rfl⟩
  apply fg;refine ct (f2 hh (zAa c2)) ?_;refine sk ?_;apply fg;apply gl;apply fg;refine rk [2,3,4,6,7,15] [] hh fun h hh=>?_;obtain ⟨g3,H1⟩:=isg H1;apply fg;refine dk 8 [2,3,4,6,7,8,15] [] [] [] (f3 hh (zok (k:=.i64) (off:=10) (L:=(x.l.map (fh .i64)++(x2.l.map (fh .i64)))) (r:=[]) x2 g3) (zok (k:=.i64) (off:=10) (L:=(q.mask.l.map (fh .i64)++(q.bits.l.map (fh .i64)))) (r:=[]) q.bits g3)) trivial trivial fun h hh=>?_;obtain ⟨dj,e4,H1⟩:=zab H1;apply fg;refine rkp [2,3,4,6,7,8,15] [] [.int .i64 dj] hh ?_ ?_
  .exact ⟨gd ((zlq ax hx k (f5.wrap (iXor .i64 (gx x2.l i) (gx q.bits.l i))) dj e4 ).call _),trivial⟩
  clear hh h;intro h hh;apply fg;refine rk [2,3,4,6,7,8,15] [] (f3 hh (zq8 (k:=.i64) (L:=(x.l.map (fh .i64)++(x2.l.map (fh .i64)))) (r:=(x2.l.map (fh .i64))) x g3) (ybn (k:=.i64) (L:=(x.l.map (fh .i64)++(x2.l.map (fh .i64)))) (r:=(x2.l.map (fh .i64))) (L2:=((x.set i (zhr .i64 (gx x.l i) (iXor .i64 (gx x2.l i) (gx q.bits.l i)))).l.map (fh .i64)++(x2.l.map (fh .i64)))) x (zhr .i64 (gx x.l i) (iXor .i64 (gx x2.l i) (gx q.bits.l i))) g3)) fun h hh=>?_;refine rk [2,3,4,6,15] [] (f3 hh (zok (k:=.i64) (off:=10) (L:=((x.set i (zhr .i64 (gx x.l i) (iXor .i64 (gx x2.l i) (gx q.bits.l i)))).l.map (fh .i64)++(x2.l.map (fh .i64)))) (r:=[]) x2 g3) (setAt (k:=.i64) (off:=10) (L:=((x.set i (zhr .i64 (gx x.l i) (iXor .i64 (gx x2.l i) (gx q.bits.l i)))).l.map (fh .i64)++(x2.l.map (fh .i64)))) (r:=[]) (L2:=((x.set i (zhr .i64 (gx x.l i) (iXor .i64 (gx x2.l i) (gx q.bits.l i)))).l.map (fh .i64)++((x2.set i (zhr .i64 (gx x2.l i) (iXor .i64 (gx x2.l i) (gx q.bits.l i)))).l.map (fh .i64)))) (p:=((x.set i (zhr .i64 (gx x.l i) (iXor .i64 (gx x2.l i) (gx q.bits.l i)))).l.map (fh .i64))) x2 (zhr .i64 (gx x2.l i) (iXor .i64 (gx x2.l i) (gx q.bits.l i))) g3)) fun h hh=>?_;refine rk [2,3,4,6,15] [] hh fun h hh=>?_;exact rd m hh ⟨(fi.wrap (n+dj)),(fi.wrap (i+1)),(x.set i (zhr .i64 (gx x.l i) (iXor .i64 (gx x2.l i) (gx q.bits.l i)))),(x2.set i (zhr .i64 (gx x2.l i) (iXor .i64 (gx x2.l i) (gx q.bits.l i)))),H1,kq hh,rfl⟩
 clear hh h;rintro h bs ⟨hh,rfl⟩;repeat apply fg
 refine rk [2,4,50] [] hh fun h hh=>?_;rcases isp H with ⟨c5,H⟩|⟨c5,H⟩;rotate_left
 .skip;refine cf (f2 hh (zAb c5)) ?_;refine sk ?_;apply fg;refine rk [4,5] [] hh fun h hh=>?_;cases H;exact rtc hh
 refine ct (f2 hh (zAa c5)) ?_;apply fg;refine rk [4,5] [] hh fun h hh=>?_;cases H;exact rtc hh
def zeo (k:Nat) (p:Pat) (q:Pat):Nat->Int->Int->Int->Option (Int×Int)
 |0,_,_,_=>none
 |m+1,at_,n,i=>(if i<160 then ((zdl k p.bits i).bind fun aj=>((zdl k q.bits i).bind fun av=>(if aj≠av then zeo k p q m i (fi.wrap (n+1)) (fi.wrap (i+1)) else zeo k p q m at_ n (fi.wrap (i+1))))) else some (at_,n))
def zmt (k:Nat) (p:Pat) (q:Pat):Option (Pat×Bool):=((zeo k p q k (-1) 0 0:Option (Int×Int)).bind fun s_=>(((if p.mask=q.mask then some (decide (s_.2≠1)) else some true):Option Bool).bind fun s_2=>(if s_2=true then some ((⟨zA 10,zA 10⟩:Pat),false) else ((zfi k p.mask s_.1 0).bind fun ai=>((zfi k p.bits s_.1 0).bind fun ar=>some ((⟨ai,ar⟩:Pat),true))))))
theorem z0t (ax:Axs) (hx:NoAx ax) (k:Nat) (p:Pat) (q:Pat) (v:Pat×Bool) (H:zmt k p q=some v):Pure Try.prog (EE ax) [] 36 [ePat p,ePat q] (tupT [ePat v.1,.bool v.2]):=by
 rw [zmt] at H;refine enN [.cell 4 56,.tmp 5] 46 [0,1] (hx.no _ (by decide)) (fn36 ax) ?_;intro h hh;apply fg;refine rk [2,3,4] [] hh fun h hh=>?_;apply fg;refine rk [2,3,4,6] [] hh fun h hh=>?_;apply fg;refine rk [2,3,4,6,7] [] hh fun h hh=>?_;repeat apply fg
 refine rk [2,3,4,6,7,8] [] hh fun h hh=>?_;obtain ⟨s_,H1,H⟩:=zab H;refine cu [2,3,4,6,7] 3 (fun h bs=>(h 2=.ptr 0 0 20/\h 3=.ptr 1 0 20/\h 4=.ptr 2 0 20/\h 6=.int .i64 s_.1/\h 7=.int .i64 s_.2)/\bs=[.cells true 20 (p.mask.l.map (fh .i64)++(p.bits.l.map (fh .i64))),.cells true 20 (q.mask.l.map (fh .i64)++(q.bits.l.map (fh .i64))),.cells true 20 ((zA 10).l.map (fh .i64)++((zA 10).l.map (fh .i64)))]) ?_ ?_
 .skip;apply gl;refine jj [2,3,4,6,7,8] (fun m h bs=>∃ (at_:Int) (n:Int) (i:Int),zeo k p q m at_ n i=some s_/\(h 2=.ptr 0 0 20/\h 3=.ptr 1 0 20/\h 4=.ptr 2 0 20/\h 6=.int .i64 at_/\h 7=.int .i64 n/\h 8=.int .i64 i)/\bs=[.cells true 20 (p.mask.l.map (fh .i64)++(p.bits.l.map (fh .i64))),.cells true 20 (q.mask.l.map (fh .i64)++(q.bits.l.map (fh .i64))),.cells true 20 ((zA 10).l.map (fh .i64)++((zA 10).l.map (fh .i64)))]) ?_ k _ _ ?_;rotate_left
  .exact ⟨(-1),0,0,H1,kq hh,rfl⟩
  clear hh h H1;rintro m h bs ⟨at_,n,i,H1,hh,rfl⟩;rcases m with _|m
  .rw [zeo] at H1;cases H1
  rw [zeo] at H1;repeat apply fg
  refine rk [2,3,4,6,7,8,10] [] hh fun h hh=>?_;rcases isp H1 with ⟨c1,H1⟩|⟨c1,H1⟩;rotate_left
  .skip;refine cf (f2 hh (zAb c1)) ?_;refine xk ?_;cases H1;exact ce hh ⟨kq hh,rfl⟩
  refine ct (f2 hh (zAa c1)) ?_;refine sk ?_;apply fg;apply gl;obtain ⟨aj,e2,H1⟩:=zab H1;obtain ⟨av,e3,H1⟩:=zab H1;apply fg;refine dk 6 [2,3,4,6,7,8,21] [.int .i64 aj] [] [(.int .i64 av,stL [.cells true 20 (p.mask.l.map (fh .i64)++(p.bits.l.map (fh .i64))),.cells true 20 (q.mask.l.map (fh .i64)++(q.bits.l.map (fh .i64))),.cells true 20 ((zA 10).l.map (fh .i64)++((zA 10).l.map (fh .i64)))])] hh ?_ ?_ ?_
  .exact ⟨(zbk ax hx k p.bits i aj e2 ).call _,trivial⟩
  .exact ⟨gd ((zbk ax hx k q.bits i av e3 ).call _),trivial⟩
  clear hh h;intro h hh;rcases isp H1 with ⟨c4,H1⟩|⟨c4,H1⟩;rotate_left
  .skip;refine cf (f2 hh (zAb c4)) ?_;refine sk ?_;refine rk [2,3,4,6,7,8] [] hh fun h hh=>?_;exact rd m hh ⟨at_,n,(fi.wrap (i+1)),H1,kq hh,rfl⟩
  refine ct (f2 hh (zAa c4)) ?_;apply fg;refine rk [2,3,4,6,7,8] [] hh fun h hh=>?_;refine rk [2,3,4,6,7,8] [] hh fun h hh=>?_;refine rk [2,3,4,6,7,8] [] hh fun h hh=>?_;exact rd m hh ⟨i,(fi.wrap (n+1)),(fi.wrap (i+1)),H1,kq hh,rfl⟩
 clear hh h;rintro h bs ⟨hh,rfl⟩;obtain ⟨s_2,H1,H⟩:=zab H;repeat apply fg
 refine cu [2,4,6,33] 3 (fun h bs=>(h 2=.ptr 0 0 20/\h 4=.ptr 2 0 20/\h 6=.int .i64 s_.1/\h 33=.bool s_2)/\bs=[.cells true 20 (p.mask.l.map (fh .i64)++(p.bits.l.map (fh .i64))),.cells true 20 (q.mask.l.map (fh .i64)++(q.bits.l.map (fh .i64))),.cells true 20 ((zA 10).l.map (fh .i64)++((zA 10).l.map (fh .i64)))]) ?_ ?_
 .skip;rcases isp H1 with ⟨c5,H1⟩|⟨c5,H1⟩;rotate_left
  .skip;refine rk [2,4,6,33] [] (f3 hh (zAb c5) ((aq43 ax p.mask q.mask).2)) fun h hh=>?_;cases H1;exact ce hh ⟨kq hh,rfl⟩
  refine rk [2,4,6,33] [] (f3 hh (zAa c5) ((aq43 ax p.mask q.mask).2)) fun h hh=>?_;cases H1;exact ce hh ⟨kq hh,rfl⟩
 clear hh h;rintro h bs ⟨hh,rfl⟩;rcases isb H with ⟨c6,H⟩|⟨c6,H⟩;rotate_left
 .skip;refine cf (f2 hh c6) ?_;refine sk ?_;obtain ⟨ai,e7,H⟩:=zab H;apply fg;refine rkc [2,4,6] [] [(.agg (ai.l.map (fh .i64)),stL [.cells true 20 (p.mask.l.map (fh .i64)++(p.bits.l.map (fh .i64))),.cells true 20 (q.mask.l.map (fh .i64)++(q.bits.l.map (fh .i64))),.cells true 20 ((zA 10).l.map (fh .i64)++((zA 10).l.map (fh .i64)))])] (f2 hh c6) ?_ ?_
  .exact ⟨gd (i7 (zfo ax hx k p.mask s_.1 0 ai e7 ) (by first|rfl|simp only [c6])),trivial⟩
  clear hh h;intro h hh;obtain ⟨ar,e8,H⟩:=zab H;apply fg;refine rkc [2,4] [] [(.agg (ar.l.map (fh .i64)),stL [.cells true 20 (ai.l.map (fh .i64)++(p.bits.l.map (fh .i64))),.cells true 20 (q.mask.l.map (fh .i64)++(q.bits.l.map (fh .i64))),.cells true 20 ((zA 10).l.map (fh .i64)++((zA 10).l.map (fh .i64)))])] (f2 hh c6) ?_ ?_
  .exact ⟨gd (i7 (zfo ax hx k p.bits s_.1 0 ar e8 ) (by first|rfl|simp only [c6])),trivial⟩
  clear hh h;intro h hh;apply fg;refine rk [4,5] [] (f2 hh c6) fun h hh=>?_;cases H;exact rtc hh
 refine ct (f2 hh c6) ?_;apply fg;refine rk [4,5] [] (f2 hh c6) fun h hh=>?_;cases H;exact rtc hh
def zii (k:Nat) (a:Rule) (b:Rule):Option Bool:=((zdh k (⟨b.prio,b.mat,a.step,a.outs⟩:Rule) b).bind fun bg=>some bg)
theorem ztg (ax:Axs) (hx:NoAx ax) (k:Nat) (a:Rule) (b:Rule) (v:Bool) (H:zii k a b=some v):Pure Try.prog (EE ax) [] 33 [zaj a,zaj b] (.bool v):=by
 rw [zii] at H;refine en [.tmp 4] 14 [0,1] (hx.no _ (by decide)) (fn33 ax) ?_;intro h hh;apply fg;refine rk [2,3] [] hh fun h hh=>?_;apply fg;refine ds 5 [(7,some 1),(9,some 0)] [2,3] [] [] [] hh trivial trivial fun h hh=>?_;obtain ⟨bg,e1,H⟩:=zab H;apply fg;refine rkp [4] [] [.bool bg] hh ?_ ?_
 .exact ⟨gd ((zhg ax hx k (⟨b.prio,b.mat,a.step,a.outs⟩:Rule) b bg e1 ).call _),trivial⟩
 clear hh h;intro h hh;cases H;exact rt hh
def zk1 (k:Nat) (a:Rule) (b:Rule):Option Bool:=((zf9 k (⟨0,(⟨zA 10,zA 10⟩:Pat),a.step,a.outs⟩:Rule) (⟨0,(⟨zA 10,zA 10⟩:Pat),b.step,b.outs⟩:Rule)).bind fun bg=>some bg)
theorem zyy (ax:Axs) (hx:NoAx ax) (k:Nat) (a:Rule) (b:Rule) (v:Bool) (H:zk1 k a b=some v):Pure Try.prog (EE ax) [] 35 [zaj a,zaj b] (.bool v):=by
 rw [zk1] at H;refine en [.tmp 4] 14 [0,1] (hx.no _ (by decide)) (fn35 ax) ?_;intro h hh;apply fg;refine rk [2,3] [] hh fun h hh=>?_;apply fg;refine rk [2,3] [] hh fun h hh=>?_;apply fg;refine rk [2,3] [] hh fun h hh=>?_;apply fg;refine rk [2,3] [] hh fun h hh=>?_;apply fg;refine rk [2,3] [] hh fun h hh=>?_;obtain ⟨bg,e1,H⟩:=zab H;apply fg;refine rkp [4] [] [.bool bg] hh ?_ ?_
 .exact ⟨gd ((zl7 ax hx k (⟨0,(⟨zA 10,zA 10⟩:Pat),a.step,a.outs⟩:Rule) (⟨0,(⟨zA 10,zA 10⟩:Pat),b.step,b.outs⟩:Rule) bg e1 ).call _),trivial⟩
 clear hh h;intro h hh;cases H;exact rt hh
def zbu (k:Nat) (t:List Rule) (fv:Pat):Nat->Int->(List Rule)->Nat->Option (List Rule×Nat)
 |0,_,_,_=>none
 |m+1,i,l,n=>(if i<(t.length:Int) then (if 0<=i/\i<(t.length:Int) then ((zik k ((gx t i).mat) fv).bind fun af=>(if af.2=true then (if (n+1)*201<=1000000000 then zbu k t fv m (fi.wrap (i+1)) (l++[(⟨(gx t i).prio,af.1,(gx t i).step,(gx t i).outs⟩:Rule)]) (n+1) else none) else zbu k t fv m (fi.wrap (i+1)) l n)) else none) else some (l,n))
def zga (k:Nat) (t:List Rule) (fv:Pat):Option (List Rule):=((zbu k t fv k 0 [] 0:Option (List Rule×Nat)).bind fun s_=>(if s_.1.length=s_.2 then some s_.1 else none))
theorem zl8 (ax:Axs) (hx:NoAx ax) (k:Nat) (t:List Rule) (fv:Pat) (v:List Rule) (H:zga k t fv=some v):Pure Try.prog (EE ax) [] 58 [zae t,.cp (fv.mask.l.map (fh .i64)++(fv.bits.l.map (fh .i64)))] (zae v):=by
 rw [zga] at H;refine en [.tmp 3] 31 [0,1] (hx.no _ (by decide)) (fn58 ax) ?_;intro h hh;apply fg;refine rk [0,1] [] hh fun h hh=>?_;apply fg;refine rk [0,1,4] [] hh fun h hh=>?_;refine vk 4 23 [0,1,4] hh fun h hh=>?_;repeat apply fg
 refine rk [1,4,9,10,11] [] hh fun h hh=>?_;obtain ⟨s_,H1,H⟩:=zab H;refine cu [4] 1 (fun h bs=>(h 4=.arr 0 23 0 s_.2 s_.2 (s_.2*23))/\bs=[.cells false (s_.2*23) (vecC zaj s_.1)]) ?_ ?_
 .skip;apply gl;refine jj [1,4,9,10,11] (fun m h bs=>∃ (i:Int) (l:List Rule) (n:Nat),zbu k t fv m i l n=some s_/\(h 1=.cp (fv.mask.l.map (fh .i64)++(fv.bits.l.map (fh .i64)))/\h 4=.arr 0 23 0 n n (n*23)/\h 9=zae t/\h 10=.int .i64 (t.length:Int)/\h 11=.int .i64 i)/\bs=[.cells false (n*23) (vecC zaj l)]) ?_ k _ _ ?_;rotate_left
  .exact ⟨0,[],0,H1,kq hh,rfl⟩
  clear hh h H1;rintro m h bs ⟨i,l,n,H1,hh,rfl⟩;rcases m with _|m
  .rw [zbu] at H1;cases H1
  rw [zbu] at H1;apply fg;refine rk [1,4,9,10,11,12] [] hh fun h hh=>?_;rcases isp H1 with ⟨c1,H1⟩|⟨c1,H1⟩;rotate_left
  .skip;apply fg;refine cf (f2 hh (zAb c1)) ?_;refine xk ?_;cases H1;exact ce hh ⟨kq hh,rfl⟩
  apply fg;refine ct (f2 hh (zAa c1)) ?_;refine sk ?_;apply fg;apply gl;obtain ⟨g2,H1⟩:=isg H1;apply fg;refine rk [1,4,6,9,10,11] [] (f2 hh (zag g2)) fun h hh=>?_;obtain ⟨af,e3,H1⟩:=zab H1;apply fg;refine rkc [1,4,6,7,8,9,10,11] [] [(.tup [ePat af.1,.bool af.2],stL [.cells false (n*23) (vecC zaj l),.cells true 23 (fh .i64 ((gx t i).prio) :: ((((gx t i).mat).mask).l.map (fh .i64)++((((gx t i).mat).bits).l.map (fh .i64)++[fh .i64 ((gx t i).step),za3 ((gx t i).outs)])))])] hh ?_ ?_
  .exact ⟨gd ((zrj ax hx k ((gx t i).mat) fv af e3 ).call _),trivial⟩
  clear hh h;intro h hh;apply fg;refine rk [1,4,6,7,9,10,11,22] [] hh fun h hh=>?_;rcases isb H1 with ⟨c4,H1⟩|⟨c4,H1⟩;rotate_left
  .skip;refine cf (f2 hh c4) ?_;refine sk ?_;refine rk [1,4,9,10,11] [] (f2 hh c4) fun h hh=>?_;exact rd m hh ⟨(fi.wrap (i+1)),l,n,H1,kq hh,rfl⟩
  refine ct (f2 hh c4) ?_;apply fg;refine rk [1,4,6,9,10,11] [] (f2 hh c4) fun h hh=>?_;obtain ⟨g5,H1⟩:=isg H1;refine rg [] [] [.cells false ((n+1)*23) (vecC zaj (l++[(⟨(gx t i).prio,af.1,(gx t i).step,(gx t i).outs⟩:Rule)])),.cells true 23 (fh .i64 ((gx t i).prio) :: (af.1.mask.l.map (fh .i64)++(af.1.bits.l.map (fh .i64)++[fh .i64 ((gx t i).step),za3 ((gx t i).outs)]))),.cells true 20 (af.1.mask.l.map (fh .i64)++(af.1.bits.l.map (fh .i64)))] (fun h=>h 1=.cp (fv.mask.l.map (fh .i64)++(fv.bits.l.map (fh .i64)))/\h 4=.arr 0 23 0 (n+1) (n+1) ((n+1)*23)/\h 9=zae t/\h 10=.int .i64 (t.length:Int)/\h 11=.int .i64 i) (f3 hh c4 ((show vecC zaj [(⟨(gx t i).prio,af.1,(gx t i).step,(gx t i).outs⟩:Rule)]=(fh .i64 ((⟨(gx t i).prio,af.1,(gx t i).step,(gx t i).outs⟩:Rule).prio) :: ((((⟨(gx t i).prio,af.1,(gx t i).step,(gx t i).outs⟩:Rule).mat).mask).l.map (fh .i64)++((((⟨(gx t i).prio,af.1,(gx t i).step,(gx t i).outs⟩:Rule).mat).bits).l.map (fh .i64)++[fh .i64 ((⟨(gx t i).prio,af.1,(gx t i).step,(gx t i).outs⟩:Rule).step),za3 ((⟨(gx t i).prio,af.1,(gx t i).step,(gx t i).outs⟩:Rule).outs)]))) from zdk.trans rfl))) trivial fun h hh=>?_;refine rk [1,4,9,10,11] [] (f2 hh c4) fun h hh=>?_;exact rd m hh ⟨(fi.wrap (i+1)),(l++[(⟨(gx t i).prio,af.1,(gx t i).step,(gx t i).outs⟩:Rule)]),(n+1),H1,kq hh,rfl⟩
 clear hh h;rintro h bs ⟨hh,rfl⟩;apply fg;refine rk [3] [] hh fun h hh=>?_;obtain ⟨g6,H⟩:=isg H;refine pe 3 (b:=0) (e:=23) (off:=0) (len:=s_.2) (cap:=s_.2) (M:=(s_.2*23)) (s_.1.map zaj) (kq hh) (by rfl) (by omega) (by omega) (by rw [gp];exact zc5 (fun x=>zau x) g6) (fun t ht=>by obtain ⟨x,_,rfl⟩:=jo.1 ht;first|rfl|exact zf6 _|exact za1 _|exact zd0 _|exact zau _ | (rw [fq];rfl)) (by rw [fq]<;>exact g6) (by omega) ?_;rw [zec _ _ _ (by simp only [lzA]<;>omega)];simp only [scA];refine gk [3] hh fun h hh=>?_;cases H;exact rt hh
def zjp (k:Nat) (t:List Rule) (u:List Rule) (p:Pat):Option Bool:=((zga k t p).bind fun r1=>((zga k u p).bind fun r12=>((zha k r1 r12).bind fun br=>some br.2)))
theorem zvr (ax:Axs) (hx:NoAx ax) (k:Nat) (t:List Rule) (u:List Rule) (p:Pat) (v:Bool) (H:zjp k t u p=some v):Pure Try.prog (EE ax) [] 37 [zae t,zae u,ePat p] (.bool v):=by
 rw [zjp] at H;refine en [.tmp 6] 22 [0,1,2] (hx.no _ (by decide)) (fn37 ax) ?_;intro h hh;apply fg;refine rk [0,1,5] [] hh fun h hh=>?_;refine zk 5 0 20 true (p.mask.l.map (fh .i64)++(p.bits.l.map (fh .i64))) [0,1,5] hh fun h hh=>?_;apply fg;refine rk [0,1,7] [] hh fun h hh=>?_;obtain ⟨r1,e1,H⟩:=zab H;obtain ⟨r12,e2,H⟩:=zab H;obtain ⟨br,e3,H⟩:=zab H;apply fg;refine rkc [9] [] [(zae r1,stL [.gone]),(zae r12,stL [.gone]),(.tup [.agg (br.1.l.map (fh .i64)),.bool br.2],stL [.gone])] hh ?_ ?_
 .exact ⟨gd ((zl8 ax hx k t p r1 e1 ).call _),gd ((zl8 ax hx k u p r12 e2 ).call _),gd ((ztb ax hx k r1 r12 br e3 ).call _),trivial⟩
 clear hh h;intro h hh;apply fg;refine rk [6] [] hh fun h hh=>?_;cases H;exact rt hh
theorem bnd3 {n a b:Nat} (h:a<=b) (h2:b<=n):zb2 n n (some (.int .i64 (a:Int))) (some (.int .i64 (b:Int))) (some (.int .i64 (n:Int)))=some (a,b,n):=by
  show (bif h9 a b && h9 b n && h9 n n && (Option.isNone (some (Value.int .i64 (n:Int))) || Option.isSome (some (Value.int .i64 (b:Int)))) then some (a,b,n) else none)=_;rw [zav.2 h,zav.2 h2,zav.2 (fp n)];rfl
theorem bndH {n a:Nat} (h:a<=n):zb2 n n none (some (.int .i64 (a:Int))) none=some (0,a,n):=by
  have:=yom (n:=n) (j:=(a:Int)) (by omega)
  rwa [jk] at this
theorem bndL {n a:Nat} (h:a<=n):zb2 n n (some (.int .i64 (a:Int))) none none=some (a,n,n):=by
  have:=yol (n:=n) (i:=(a:Int)) (by omega)
  rwa [jk] at this
theorem bndB {m n:Nat} (h:m<=n):zb2 m n (some (.int .i64 (m:Int))) (some (.int .i64 (n:Int))) none=some (m,n,n):=by
  show (bif h9 m n && h9 n n && h9 n n && (Option.isNone (none:Option Value) || Option.isSome (some (Value.int .i64 (n:Int)))) then some (m,n,n) else none)=_;rw [zav.2 h,zav.2 (fp n)];rfl
def delL (l:List Rule) (a b:Nat):List Rule:=l.take a++l.drop b
def zmw (k n:Nat) (l:List Rule) (i j:Int):Option (List Rule):=if l.length=n/\0<=i/\i<j/\j<=n/\n*201<=1000000000 then some (delL l i.toNat j.toNat) else none
theorem zdf (x:Rule):(zaj x).cells.length=23:=by
  show (fh .i64 x.prio :: (x.mat.mask.l.map (fh .i64)++(x.mat.bits.l.map (fh .i64)++[fh .i64 x.step,za3 x.outs]))).length=23;simp [x.mat.mask.h,x.mat.bits.h]
theorem z5r (l:List Rule) (n:Nat) (h:n<=l.length):(vecC zaj l).take (n*23)=vecC zaj (l.take n):=by
  conv=>lhs;rw [<- i9 n l,zaw]
  rw [jx (by rw [zbt zdf,ik];omega),ij (by rw [zbt zdf,ik];omega)]
theorem z5s (l:List Rule) (n:Nat) (h:n<=l.length):(vecC zaj l).drop (n*23)=vecC zaj (l.drop n):=by
  conv=>lhs;rw [<- i9 n l,zaw]
  rw [show n*23=(vecC zaj (l.take n)).length from by rw [zbt zdf,ik,Nat.min_eq_left h],List.drop_left]
theorem zz5 {l:List Rule} {a b:Nat} (h:a<=b) (h2:b<=l.length):(delL l a b).length=a+(l.length - b):=by
  unfold delL;rw [fx,ik,jf,Nat.min_eq_left (by omega)]
theorem ymq (ax:Axs) {l:List Rule} {n a b:Nat} {z:Bool} (hl:l.length=n) (h:a<b) (h2:b<=n) (hn:n*201<=1000000000) :
    zmn (EE ax) (stL [.cells z (n*23) (vecC zaj l)]) 28 (.arr 0 23 (b*23) (n - b) (n - b) (n*23)) (.arr 0 23 0 a n (n*23))=some (.arr 0 23 0 (a+(n - b)) n (n*23),stL [.cells z (n*23) (vecC zaj (delL l a b++l.drop (a+(n - b))))]):=by
  have hbox:(stL [.cells z (n*23) (vecC zaj l)]).box 0=.cells z (n*23) (vecC zaj l):=rfl
  have hs:tSrc (stL [.cells z (n*23) (vecC zaj l)]) 23 (.arr 0 23 (b*23) (n - b) (n - b) (n*23))=some (n - b,vecC zaj (l.drop b)):=by
    unfold tSrc;simp only [hbox];rw [show fy (n*23) (n*23)=true from ja _,show fy 23 23=true from rfl,zav.2 (show b*23+(n - b)*23<=n*23 by omega),gc,gc,cond_true,z5s _ _ (by omega),ij (by rw [zbt zdf,jf,hl];exact fp _)]
  unfold zmn;rw [el28 ax];simp only [hs,hbox];rw [zye (by omega),show fy 23 0=false from rfl,show h9 1000 23=false from rfl,zet zio,show fy (n*23) (n*23)=true from ja _,show fy 23 23=true from rfl];simp only [iv,Bool.or_self,cond_false];rw [zav.2 (show a+(n - b)<=n by omega),cond_true];by_cases hb:n - b=0
  . rw [hb,Nat.add_zero,ja,cond_true];have e:b=n:=by omega
    have:delL l a b++l.drop a=l:=by
      unfold delL;rw [e,<- hl,List.drop_length,gt,i9]
    rw [this]
  . rw [show fy (n - b) 0=false from zi0 hb,cond_false,zav.2 (show 0+(a+(n - b))*23<=n*23 by omega),cond_true]
    have e:spl (vecC zaj l) (0+a*23) (vecC zaj (l.drop b))=vecC zaj (delL l a b++l.drop (a+(n - b))):=by
      unfold spl delL;rw [zaw,zaw,i5,z5r _ _ (by omega),zbt zdf,jf,hl,<- jm,z5s _ _ (by omega)]
    rw [e,zec _ _ _ (by simp only [lzA]<;>omega)];simp only [scA]
def zR:List T:=fh .i64 0 :: ((zA 10).l.map (fh .i64)++((zA 10).l.map (fh .i64)++[fh .i64 0,T.nils]))
theorem ym1:zR.length=23:=rfl
theorem yme (ax:Axs) {l:List Rule} {n a b:Nat} {z:Bool} (hl:l.length=n) (h:a<b) (h2:b<=n) :
    zta (EE ax) (stL [.cells z (n*23) (vecC zaj (delL l a b++l.drop (a+(n - b))))]) 28 (.arr 0 23 ((a+(n - b))*23) (n - (a+(n - b))) (n - (a+(n - b))) (n*23))=some (.tup [],stL [.cells z (n*23) (vecC zaj (delL l a b)++rep (n - (a+(n - b))) zR)]):=by
  have hd:=zz5 (l:=l) (Nat.le_of_lt h) (by omega);rw [hl] at hd;generalize hm:a+(n - b)=m at hd ⊢;unfold zta;rw [el28 ax];simp only;rw [yah];simp only;rw [show (stL [.cells z (n*23) (vecC zaj (delL l a b++l.drop m))]).box 0=.cells z (n*23) (vecC zaj (delL l a b++l.drop m)) from rfl];simp only;rw [show fy (n*23) (n*23)=true from ja _,zyl,show fy 23 23=true from rfl,zad.2 (show 0<(n - m)*23 by omega),zav.2 (show m*23+(n - m)*23<=n*23 by omega)];simp only [gc,cond_true]
  have e:spl (vecC zaj (delL l a b++l.drop m)) (m*23) (rep (n - m) zR)=vecC zaj (delL l a b)++rep (n - m) zR:=by
    unfold spl;rw [z5r _ _ (by rw [fx,hd];omega),jx (by omega),ij (by omega),z39,ym1];rw [List.drop_of_length_le (by rw [zbt zdf,fx,hd,jf,hl];omega),gt]
  rw [show (fh .i64 0 :: ((zA 10).l.map (fh .i64)++((zA 10).l.map (fh .i64)++[fh .i64 0,T.nils])))=zR from rfl,e,zec _ _ _ (by simp only [lzA]<;>omega)];simp only [scA]
theorem ya9 (ax:Axs):∀ (own:List Nat) (ρ:Operand->T) (d:Option Tmp) (t ty:TypeId) (pos:String) (e:Array Go.Edge) (g:Option (Nat×Bool)) (S:TS) (x:Operand),zgp Try.prog (EE ax) own ρ ⟨d,.call ⟨.builtin .clear,#[x],#[t]⟩,ty,pos,e,g⟩ S=zta (EE ax) S t (ρ x):=fun own ρ d t ty pos e g S x=>yfz
theorem zwu (ax:Axs) (hx:NoAx ax) (k n:Nat) (l:List Rule) (i j:Int) (v:List Rule) (H:zmw k n l i j=some v) :
    Call Try.prog (EE ax) [] 31 [.arr 0 23 0 n n (n*23),.int .i64 i,.int .i64 j] (stL [.cells false (n*23) (vecC zaj l)]) (tupT [zae v]) (stL [.gone]):=by
  unfold zmw at H;obtain ⟨⟨hl,g0,g1,g2,g3⟩,H⟩:=isg H;obtain ⟨a,rfl⟩:=jt g0;obtain ⟨b,rfl⟩:=jt (show 0<=j by omega);cases H;rw [jk,jk];have hab:a<b:=by omega
  have hbn:b<=n:=by omega
  have hA:=ymq ax (z:=false) hl hab hbn g3;have hC:=yme ax (z:=false) hl hab hbn;have hD:=zz5 (l:=l) (Nat.le_of_lt hab) (by omega);rw [hl] at hD;obtain ⟨m,hm⟩:∃ m,m=a+(n - b):=⟨_,rfl⟩;rw [<- hm] at hA hC hD;refine enB [.tmp 6] 33 [0,1,2] (hx.no _ (by decide)) (fn31 ax) ?_;intro h hh;apply fg;refine rk [0,1,2] [] hh fun h hh=>?_;apply fg;refine rk [0,1,2] [] (f2 hh (bnd3 (n:=n) (Nat.le_of_lt hab) hbn)) fun h hh=>?_;repeat apply fg
  refine rk [0,1,2,16] [] hh fun h hh=>?_;refine cf (f2 hh (zAb (show ¬ (a:Int)=(b:Int) by omega))) ?_;refine sk ?_;apply fg;refine rk [0,1,2,7] [] hh fun h hh=>?_;apply fg;refine dg 6 [] [] [] [.cells false (n*23) (vecC zaj (delL l a b++l.drop m))] (fun h=>h 0=.arr 0 23 0 m n (n*23)/\h 7=.int .i64 (n:Int)) (f3 hh (bndH (n:=n) (a:=a) (by omega)) (f2 (bndL (n:=n) (a:=b) hbn) hA)) trivial trivial fun h hh=>?_;apply fg;refine rg [] [] [.cells false (n*23) (vecC zaj (delL l a b)++rep (n - m) zR)] (fun h=>h 0=.arr 0 23 0 m n (n*23)) (f3 hh (bndB (m:=m) (n:=n) (by omega)) (f2 hC (ya9 ax))) trivial fun h hh=>?_;refine pe 0 (b:=0) (e:=23) (off:=0) (len:=m) (cap:=n) (M:=n*23) ((delL l a b).map zaj) (kq hh) (by rfl) (by omega) (by omega) ?_ ?_ ?_ (by omega) ?_
  . rw [gp,jx (by rw [zbt zdf,hD];exact fp _),ij (by rw [zbt zdf,hD];exact fp _)];rfl
  . intro t ht;obtain ⟨x,_,rfl⟩:=jo.1 ht;exact zdf x
  . rw [fq,hD]
  rw [zec _ _ _ (by simp only [lzA]<;>omega)];simp only [scA];refine gk [0] hh fun h hh=>?_;apply fg;refine rk [6] [] hh fun h hh=>?_;exact rtB hh
theorem yc8 (r:Rule) (m:Pat):spl (zaj r).cells 1 (m.mask.l.map (fh .i64)++(m.bits.l.map (fh .i64)))=(zaj { r with mat:=m }).cells:=by
  have e1:(zaj r).cells=fh .i64 r.prio :: (r.mat.mask.l.map (fh .i64)++(r.mat.bits.l.map (fh .i64)++[fh .i64 r.step,za3 r.outs])):=rfl;have e2:(zaj { r with mat:=m }).cells=fh .i64 r.prio :: (m.mask.l.map (fh .i64)++(m.bits.l.map (fh .i64)++[fh .i64 r.step,za3 r.outs])):=rfl;rw [e1,e2];have h1:(m.mask.l.map (fh .i64)++m.bits.l.map (fh .i64)).length=20:=by simp [m.mask.h,m.bits.h]
  have h2:(r.mat.mask.l.map (fh .i64)++r.mat.bits.l.map (fh .i64)).length=20:=by simp [r.mat.mask.h,r.mat.bits.h]
  unfold spl;rw [h1,List.take_succ_cons,List.take_zero,show 1+20=20+1 from rfl,kv,<- gj (r.mat.mask.l.map (fh .i64)),<- h2,List.drop_left];simp
theorem ylc {a b c xs:List T} {n j:Nat} (ha:a.length=n) (hj:j+xs.length<=b.length):spl (a++(b++c)) (n+j) xs=a++(spl b j xs++c):=by
  subst ha;unfold spl;rw [List.take_length_add_append,Nat.add_assoc,List.drop_length_add_append,jx (by omega),List.drop_append_of_le_length (by omega)];simp only [gj]
theorem ybm {l:List Rule} {i:Nat} (m:Pat) (h:i<l.length):spl (vecC zaj l) (i*23+1) (m.mask.l.map (fh .i64)++(m.bits.l.map (fh .i64)))=vecC zaj (l.set i { l.getD i default with mat:=m }):=by
  rw [<- zyq zaj 23 { l.getD i default with mat:=m } zdf h];obtain ⟨h1,h2⟩:=znr zaj 23 zdf h;have hc:=zdf (l.getD i default);have hn:=zdf { l.getD i default with mat:=m };have hm:(m.mask.l.map (fh .i64)++m.bits.l.map (fh .i64)).length=20:=by simp [m.mask.h,m.bits.h]
  rw [h1,ybe h2 (by rw [hn,hc]),ylc h2 (by omega),yc8]
def zg1 (k:Nat) (t:List Rule) (m_:Merg):Option (List Rule×Int):=(((if m_.i<0 then some true else some (decide ((t.length:Int)<=m_.i))):Option Bool).bind fun s_=>(if s_=true then some ([],1) else (if m_.kind=1 then (if m_.k≠0 then some ([],1) else (if t.length*201<=1000000000 then ((zmw k t.length t m_.i (fi.wrap (m_.i+1))).bind fun ef=>some (ef,0)) else none)) else (((if m_.kind=2 then some true else some (decide (m_.kind=3))):Option Bool).bind fun s_2=>(if s_2=true then (((if m_.k<=m_.i then some true else (if (t.length:Int)<=m_.k then some true else (if 0<=m_.i/\m_.i<(t.length:Int) then (if 0<=m_.k/\m_.k<(t.length:Int) then ((zii k (gx t m_.i) (gx t m_.k)).bind fun am=>some (!am)) else none) else none))):Option Bool).bind fun s_3=>(if s_3=true then some ([],1) else (if 0<=m_.i/\m_.i<(t.length:Int) then (if 0<=m_.k/\m_.k<(t.length:Int) then ((zh9 k ((gx t m_.i).mat) ((gx t m_.k).mat)).bind fun ab=>(if ab.2=true then (if t.length*201<=1000000000 then (if m_.i.toNat<t.length then (if m_.k.toNat<(t.set m_.i.toNat ({ t.getD m_.i.toNat default with mat:=ab.1 })).length then (((if m_.kind=3 then some m_.i else some m_.k):Option Int).bind fun s_4=>((zmw k t.length ((t.set m_.i.toNat ({ t.getD m_.i.toNat default with mat:=ab.1 })).set m_.k.toNat ({ (t.set m_.i.toNat ({ t.getD m_.i.toNat default with mat:=ab.1 })).getD m_.k.toNat default with mat:=ab.1 })) s_4 (fi.wrap (s_4+1))).bind fun cr=>some (cr,0))) else none) else none) else none) else some ([],1))) else none) else none))) else some ([],1))))))
theorem zkh (ax:Axs) (hx:NoAx ax) (k:Nat) (t:List Rule) (m_:Merg) (v:List Rule×Int) (H:zg1 k t m_=some v):Pure Try.prog (EE ax) [] 10 [zae t,zib m_] (tupT [zae v.1,.int .i64 v.2]):=by
 rw [zg1] at H;refine enN [.tmp 4,.tmp 5] 108 [0,1] (hx.no _ (by decide)) (fn10 ax) ?_;intro h hh;apply fg;refine rk [0,3] [] hh fun h hh=>?_;refine zk 3 0 3 true [.int .i64 m_.kind,.int .i64 m_.i,.int .i64 m_.k] [0,3] hh fun h hh=>?_;obtain ⟨s_,H1,H⟩:=zab H;repeat apply fg
 refine cu [0,3,19] 1 (fun h bs=>(h 0=zae t/\h 3=.cp [.int .i64 m_.kind,.int .i64 m_.i,.int .i64 m_.k]/\h 19=.bool s_)/\bs=[.gone]) ?_ ?_
 .skip;rcases isp H1 with ⟨c1,H1⟩|⟨c1,H1⟩;rotate_left
  .skip;refine rk [0,3,19] [] (f3 hh (zAb c1) (zqb ax)) fun h hh=>?_;cases H1;exact ce hh ⟨kq hh,rfl⟩
  refine rk [0,3,19] [] (f3 hh (zAa c1) (zqb ax)) fun h hh=>?_;cases H1;exact ce hh ⟨kq hh,rfl⟩
 clear hh h;rintro h bs ⟨hh,rfl⟩;rcases isb H with ⟨c2,H⟩|⟨c2,H⟩;rotate_left
 .skip;refine cf (f2 hh c2) ?_;refine sk ?_;repeat apply fg
  refine rk [0,3,21] [] (f3 hh c2 (yjq ax)) fun h hh=>?_;apply gl;apply fg;refine rk [0,3,21,22] [] (f2 hh c2) fun h hh=>?_;rcases isp H with ⟨c3,H⟩|⟨c3,H⟩;rotate_left
  .skip;refine cf (f2 hh (zAb c3)) ?_;repeat apply fg
   refine rk [0,3,21,35] [] (f2 hh c2) fun h hh=>?_;obtain ⟨s_2,H1,H⟩:=zab H;refine cu [0,3,35] 1 (fun h bs=>(h 0=zae t/\h 3=.cp [.int .i64 m_.kind,.int .i64 m_.i,.int .i64 m_.k]/\h 35=.bool s_2)/\bs=[.gone]) ?_ ?_
   .skip;rcases isp H1 with ⟨c7,H1⟩|⟨c7,H1⟩;rotate_left
    .skip;refine cf (f2 hh (zAb c7)) ?_;refine rk [0,3,35] [] (f2 hh c2) fun h hh=>?_;cases H1;exact ce hh ⟨kq hh,rfl⟩
    refine ct (f2 hh (zAa c7)) ?_;refine sk ?_;cases H1;exact ce hh ⟨kq (f2 hh (zAa c7)),rfl⟩
   clear hh h;rintro h bs ⟨hh,rfl⟩;rcases isb H with ⟨c8,H⟩|⟨c8,H⟩;rotate_left
   .skip;refine cf (f2 hh c8) ?_;refine sk ?_;apply fg;refine rk [4,5] [] (f3 hh c2 c8) fun h hh=>?_;refine nk 4 23 [4,5] hh fun h hh=>?_;cases H;exact rt hh
   refine ct (f2 hh c8) ?_;obtain ⟨s_3,H1,H⟩:=zab H;repeat apply fg
   refine cu [0,3,63] 1 (fun h bs=>(h 0=zae t/\h 3=.cp [.int .i64 m_.kind,.int .i64 m_.i,.int .i64 m_.k]/\h 63=.bool s_3)/\bs=[.gone]) ?_ ?_
   .skip;rcases isp H1 with ⟨c9,H1⟩|⟨c9,H1⟩;rotate_left
    .skip;rcases isp H1 with ⟨c10,H1⟩|⟨c10,H1⟩;rotate_left
     .skip;obtain ⟨g11,H1⟩:=isg H1;obtain ⟨g12,H1⟩:=isg H1;obtain ⟨am,e13,H1⟩:=zab H1;refine dk 23 [0,3,63] [] [] [(.bool am,stL [.gone])] (f3 hh (zAb c9) (f3 (zAb c10) c2 (f3 c8 (zag g11) (f3 (zag g12) (zqb ax) (zux ax))))) trivial ?_ ?_
      .exact ⟨gd (i7 (ztg ax hx k (gx t m_.i) (gx t m_.k) am e13 ) (by first|rfl|simp only [c2,c8])),trivial⟩
      clear hh h;intro h hh;cases H1;exact ce hh ⟨kq hh,rfl⟩
     refine dk 23 [0,3,63] [] [] [] (f3 hh (zAb c9) (f3 (zAa c10) c2 (f3 c8 (zqb ax) (zux ax)))) trivial trivial fun h hh=>?_;cases H1;exact ce hh ⟨kq hh,rfl⟩
    refine dk 23 [0,3,63] [] [] [] (f3 hh (zAa c9) (f3 c2 c8 (f2 (zqb ax) (zux ax)))) trivial trivial fun h hh=>?_;cases H1;exact ce hh ⟨kq hh,rfl⟩
   clear hh h;rintro h bs ⟨hh,rfl⟩;rcases isb H with ⟨c14,H⟩|⟨c14,H⟩;rotate_left
   .skip;refine cf (f2 hh c14) ?_;refine sk ?_;obtain ⟨g15,H⟩:=isg H;obtain ⟨g16,H⟩:=isg H;obtain ⟨ab,e17,H⟩:=zab H;apply fg;refine dk 12 [0,3,6,7] [] [] [(.tup [ePat ab.1,.bool ab.2],stL [.gone])] (f3 hh c2 (f3 c8 c14 (f3 (zag g15) (zag g16) (f2 (zqb ax) (zux ax))))) trivial ?_ ?_
    .exact ⟨gd (i7 (zpk ax hx k ((gx t m_.i).mat) ((gx t m_.k).mat) ab e17 ) (by first|rfl|simp only [c2,c8,c14])),trivial⟩
    clear hh h;intro h hh;refine zk 6 1 20 true (ab.1.mask.l.map (fh .i64)++(ab.1.bits.l.map (fh .i64))) [0,3,6,7] hh fun h hh=>?_;repeat apply fg
    refine rk [0,3,6,81] [] (f3 hh c2 (f2 c8 c14)) fun h hh=>?_;rcases isb H with ⟨c18,H⟩|⟨c18,H⟩;rotate_left
    .skip;refine ct (f2 hh c18) ?_;apply fg;refine rk [4,5] [] (f3 hh c2 (f3 c8 c14 c18)) fun h hh=>?_;refine nk 4 23 [4,5] hh fun h hh=>?_;cases H;exact rt hh
    refine cf (f2 hh c18) ?_;refine sk ?_;obtain ⟨g19,H⟩:=isg H;apply fg;refine rkc [3,6,8] [] [(.arr 2 23 0 t.length t.length (t.length*23),stL [.gone,.gone,.cells false (t.length*23) (vecC zaj t)])] (f3 hh c2 (f3 c8 c14 c18)) ?_ ?_
    .exact ⟨(by have q:=sg (zlf ax hx t g19) (by simp only [zbl,idsA,idsB,gc]) (by simp only [zbl,idsA,idsB,gc]) [.gone,.gone];(try simp only [c2,c8,c14,c18] at q);exact q),trivial⟩
    clear hh h;intro h hh;obtain ⟨g20,H⟩:=isg H;obtain ⟨g21,H⟩:=isg H;apply fg;refine ds 10 [(6,none),(88,none),(93,some 2)] [3,8] [] [] [] (f3 hh c2 (f3 c8 c14 (f3 c18 (ybm ab.1 g20) (f3 (ybm ab.1 g21) (zqb ax) (zux ax))))) trivial trivial fun h hh=>?_;apply fg;refine rk [3,8,9] [] (f3 hh c2 (f3 c8 c14 (f2 c18 (zux ax)))) fun h hh=>?_;repeat apply fg
    refine rk [3,8,9,100] [] (f3 hh c2 (f3 c8 c14 (f2 c18 (yjq ax)))) fun h hh=>?_;obtain ⟨s_4,H1,H⟩:=zab H;refine cu [8,9] 3 (fun h bs=>(h 8=.arr 2 23 0 t.length t.length (t.length*23)/\h 9=.int .i64 s_4)/\bs=[.gone,.gone,.cells false (t.length*23) (vecC zaj ((t.set m_.i.toNat ({ t.getD m_.i.toNat default with mat:=ab.1 })).set m_.k.toNat ({ (t.set m_.i.toNat ({ t.getD m_.i.toNat default with mat:=ab.1 })).getD m_.k.toNat default with mat:=ab.1 })))]) ?_ ?_
    .skip;rcases isp H1 with ⟨c22,H1⟩|⟨c22,H1⟩;rotate_left
     .skip;refine cf (f2 hh (zAb c22)) ?_;refine sk ?_;cases H1;exact ce hh ⟨kq hh,rfl⟩
     refine ct (f2 hh (zAa c22)) ?_;refine rk [8,9] [] (f3 hh c2 (f3 c8 c14 (f2 c18 (zqb ax)))) fun h hh=>?_;cases H1;exact ce hh ⟨kq hh,rfl⟩
    clear hh h;rintro h bs ⟨hh,rfl⟩;obtain ⟨cr,e23,H⟩:=zab H;apply fg;refine rkc [4,5] [] [(zae cr,stL [.gone,.gone,.gone])] (f3 hh c2 (f3 c8 c14 c18)) ?_ ?_
    .exact ⟨ca [2] (zwu ax hx k t.length ((t.set m_.i.toNat ({ t.getD m_.i.toNat default with mat:=ab.1 })).set m_.k.toNat ({ (t.set m_.i.toNat ({ t.getD m_.i.toNat default with mat:=ab.1 })).getD m_.k.toNat default with mat:=ab.1 })) s_4 (fi.wrap (s_4+1)) cr e23),trivial⟩
    clear hh h;intro h hh;cases H;exact rt hh
   refine ct (f2 hh c14) ?_;apply fg;refine rk [4,5] [] (f3 hh c2 (f2 c8 c14)) fun h hh=>?_;refine nk 4 23 [4,5] hh fun h hh=>?_;cases H;exact rt hh
  refine ct (f2 hh (zAa c3)) ?_;repeat apply fg
  refine rk [0,3,26] [] (f3 hh c2 (zux ax)) fun h hh=>?_;rcases isp H with ⟨c4,H⟩|⟨c4,H⟩;rotate_left
  .skip;refine cf (f2 hh (zAb c4)) ?_;refine sk ?_;obtain ⟨g5,H⟩:=isg H;obtain ⟨ef,e6,H⟩:=zab H;apply fg;refine dc 1 [3] [4,5] [] [] [(.arr 1 23 0 t.length t.length (t.length*23),stL [.gone,.cells false (t.length*23) (vecC zaj t)]),(zae ef,stL [.gone,.gone])] (f3 hh c2 (zqb ax)) trivial ?_ ?_
   .exact ⟨(by have q:=sg (zlf ax hx t g5) (by simp only [zbl,idsA,idsB,gc]) (by simp only [zbl,idsA,idsB,gc]) [.gone];(try simp only [c2] at q);exact q),ca [1] (zwu ax hx k t.length t m_.i (fi.wrap (m_.i+1)) ef e6),trivial⟩
   clear hh h;intro h hh;cases H;exact rt hh
  refine ct (f2 hh (zAa c4)) ?_;apply fg;refine rk [4,5] [] (f2 hh c2) fun h hh=>?_;refine nk 4 23 [4,5] hh fun h hh=>?_;cases H;exact rt hh
 refine ct (f2 hh c2) ?_;apply fg;refine rk [4,5] [] (f2 hh c2) fun h hh=>?_;refine nk 4 23 [4,5] hh fun h hh=>?_;cases H;exact rt hh
def zdx (k:Nat) (t:List Rule) (m_:Merg):Option (List Rule×Int):=((zg1 k t m_).bind fun ab=>(if ab.2≠0 then some ([],ab.2) else (if 0<=m_.i/\m_.i<(t.length:Int) then (((if m_.kind≠1 then (if 0<=m_.k/\m_.k<(t.length:Int) then ((zh9 k ((gx t m_.i).mat) ((gx t m_.k).mat)).bind fun ba=>some (ba.1.mask,ba.1.bits)) else none) else some (((gx t m_.i).mat).mask,((gx t m_.i).mat).bits)):Option (Ar 10×Ar 10)).bind fun s_=>((zjp k t ab.1 (⟨s_.1,s_.2⟩:Pat)).bind fun eh=>(if eh=true then some (ab.1,0) else some ([],7)))) else none)))
theorem zfx (ax:Axs) (hx:NoAx ax) (k:Nat) (t:List Rule) (m_:Merg) (v:List Rule×Int) (H:zdx k t m_=some v):Pure Try.prog (EE ax) [] 12 [zae t,zib m_] (tupT [zae v.1,.int .i64 v.2]):=by
 rw [zdx] at H;refine enN [.tmp 4,.tmp 5] 44 [0,1] (hx.no _ (by decide)) (fn12 ax) ?_;intro h hh;apply fg;refine rk [0,3] [] hh fun h hh=>?_;obtain ⟨ab,e1,H⟩:=zab H;apply fg;refine rkp [0,3,6,7] [] [.tup [zae ab.1,.int .i64 ab.2]] hh ?_ ?_
 .exact ⟨gd ((zkh ax hx k t m_ ab e1 ).call _),trivial⟩
 clear hh h;intro h hh;repeat apply fg
 refine rk [0,3,6,7,16] [] hh fun h hh=>?_;rcases isp H with ⟨c2,H⟩|⟨c2,H⟩;rotate_left
 .skip;refine cf (f2 hh (zAb c2)) ?_;refine sk ?_;obtain ⟨g3,H⟩:=isg H;apply fg;refine rk [0,3,6,8] [] (f2 hh (zag g3)) fun h hh=>?_;repeat apply fg
  refine rk [0,3,6,8,26] [] hh fun h hh=>?_;obtain ⟨s_,H1,H⟩:=zab H;refine cu [0,6,8] 2 (fun h bs=>(h 0=zae t/\h 6=zae ab.1/\h 8=.ptr 1 0 20)/\bs=[.cells true 3 [.int .i64 m_.kind,.int .i64 m_.i,.int .i64 m_.k],.cells true 20 (s_.1.l.map (fh .i64)++(s_.2.l.map (fh .i64)))]) ?_ ?_
  .skip;rcases isp H1 with ⟨c4,H1⟩|⟨c4,H1⟩;rotate_left
   .skip;refine cf (f2 hh (zAb c4)) ?_;refine sk ?_;cases H1;exact ce hh ⟨kq hh,rfl⟩
   refine ct (f2 hh (zAa c4)) ?_;obtain ⟨g5,H1⟩:=isg H1;obtain ⟨ba,e6,H1⟩:=zab H1;refine dk 7 [0,6,8] [] [] [(.tup [ePat ba.1,.bool ba.2],stL [.cells true 3 [.int .i64 m_.kind,.int .i64 m_.i,.int .i64 m_.k],.cells true 20 ((((gx t m_.i).mat).mask).l.map (fh .i64)++((((gx t m_.i).mat).bits).l.map (fh .i64)))])] (f2 hh (zag g5)) trivial ?_ ?_
   .exact ⟨gd ((zpk ax hx k ((gx t m_.i).mat) ((gx t m_.k).mat) ba e6 ).call _),trivial⟩
   clear hh h;intro h hh;cases H1;exact ce hh ⟨kq hh,rfl⟩
  clear hh h;rintro h bs ⟨hh,rfl⟩;obtain ⟨eh,e7,H⟩:=zab H;repeat apply fg
  refine rkp [6,42] [] [.bool eh] hh ?_ ?_
  .exact ⟨gd ((zvr ax hx k t ab.1 (⟨s_.1,s_.2⟩:Pat) eh e7 ).call _),trivial⟩
  clear hh h;intro h hh;rcases isb H with ⟨c8,H⟩|⟨c8,H⟩;rotate_left
  .skip;refine ct (f2 hh c8) ?_;apply fg;refine rk [4,5] [] (f2 hh c8) fun h hh=>?_;refine nk 4 23 [4,5] hh fun h hh=>?_;cases H;exact rt hh
  refine cf (f2 hh c8) ?_;refine sk ?_;apply fg;refine rk [4,5] [] (f2 hh c8) fun h hh=>?_;cases H;exact rt hh
 refine ct (f2 hh (zAa c2)) ?_;apply fg;refine rk [4,5] [] hh fun h hh=>?_;refine nk 4 23 [4,5] hh fun h hh=>?_;cases H;exact rt hh
def zfw (k:Nat) (l:List Merg):Nat->(List Rule)->Int->Option (Int ⊕ (List Rule))
 |0,_,_=>none
 |m+1,t2,i=>(if i<(l.length:Int) then (if 0<=i/\i<(l.length:Int) then ((zdx k t2 (gx l i)).bind fun ah=>(if ah.2≠0 then some (.inl ah.2) else zfw k l m ah.1 (fi.wrap (i+1)))) else none) else some (.inr t2))
def zj5 (k:Nat) (t:List Rule) (u:List Rule) (l:List Merg):Option Int:=((zfw k l k t 0:Option (Int ⊕ (List Rule))).bind fun o=>ks (fun r=>some r) (fun s_=>((zon k s_ u).bind fun bu=>(if bu=true then some 0 else some 7))) o)
theorem zfv (ax:Axs) (hx:NoAx ax) (k:Nat) (t:List Rule) (u:List Rule) (l:List Merg) (v:Int) (H:zj5 k t u l=some v):Pure Try.prog (EE ax) [] 16 [zae t,zae u,zof l] (.int .i64 v):=by
 rw [zj5] at H;refine en [.tmp 6] 32 [0,1,2] (hx.no _ (by decide)) (fn16 ax) ?_;intro h hh;apply fg;refine rk [0,1,2] [] hh fun h hh=>?_;repeat apply fg
 refine rk [0,1,11,12,13] [] hh fun h hh=>?_;obtain ⟨o,H1,H⟩:=zab H;refine cu [0,1] 0 (fun h bs=>∃ s_:List Rule,o=.inr s_/\(h 0=zae s_/\h 1=zae u)/\bs=[]) ?_ ?_
 .skip;apply gl;refine jj [0,1,11,12,13] (fun m h bs=>∃ (t2:List Rule) (i:Int),zfw k l m t2 i=some o/\(h 0=zae t2/\h 1=zae u/\h 11=zof l/\h 12=.int .i64 (l.length:Int)/\h 13=.int .i64 i)/\bs=[]) ?_ k _ _ ?_;rotate_left
  .exact ⟨t,0,H1,kq hh,rfl⟩
  clear hh h H1;rintro m h bs ⟨t2,i,H1,hh,rfl⟩;rcases m with _|m
  .rw [zfw] at H1;cases H1
  rw [zfw] at H1;apply fg;refine rk [0,1,11,12,13,14] [] hh fun h hh=>?_;rcases isp H1 with ⟨c1,H1⟩|⟨c1,H1⟩;rotate_left
  .skip;apply fg;refine cf (f2 hh (zAb c1)) ?_;refine xk ?_;cases H1;exact ce hh ⟨_,rfl,kq hh,rfl⟩
  apply fg;refine ct (f2 hh (zAa c1)) ?_;refine sk ?_;apply fg;apply gl;obtain ⟨g2,H1⟩:=isg H1;apply fg;refine rk [0,1,8,11,12,13] [] (f2 hh (zag g2)) fun h hh=>?_;obtain ⟨ah,e3,H1⟩:=zab H1;apply fg;refine rkp [1,9,10,11,12,13] [] [.tup [zae ah.1,.int .i64 ah.2]] hh ?_ ?_
  .exact ⟨gd ((zfx ax hx k t2 (gx l i) ah e3 ).call _),trivial⟩
  clear hh h;intro h hh;repeat apply fg
  refine rk [1,9,10,11,12,13,24] [] hh fun h hh=>?_;rcases isp H1 with ⟨c4,H1⟩|⟨c4,H1⟩;rotate_left
  .skip;refine cf (f2 hh (zAb c4)) ?_;refine sk ?_;refine rk [0,1,11,12,13] [] hh fun h hh=>?_;refine rk [0,1,11,12,13] [] hh fun h hh=>?_;exact rd m hh ⟨ah.1,(fi.wrap (i+1)),H1,kq hh,rfl⟩
  refine ct (f2 hh (zAa c4)) ?_;apply fg;refine rk [6] [] hh fun h hh=>?_;cases H1;obtain rfl:=sinl H;exact rt hh
 clear hh h;rintro h bs ⟨s_,rfl,hh,rfl⟩;replace H:=sinr H;obtain ⟨bu,e5,H⟩:=zab H;repeat apply fg
 refine rkp [31] [] [.bool bu] hh ?_ ?_
 .exact ⟨gd ((zvo ax hx k s_ u bu e5 ).call _),trivial⟩
 clear hh h;intro h hh;rcases isb H with ⟨c6,H⟩|⟨c6,H⟩;rotate_left
 .skip;refine ct (f2 hh c6) ?_;apply fg;refine rk [6] [] (f2 hh c6) fun h hh=>?_;cases H;exact rt hh
 refine cf (f2 hh c6) ?_;refine sk ?_;apply fg;refine rk [6] [] (f2 hh c6) fun h hh=>?_;cases H;exact rt hh
end Go.Proofs.Ytkfnjbfnkpameaa
